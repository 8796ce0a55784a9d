/- Programs, heaps and machines as plain data, and how they stand as values of the abstract machine. -/
import Derived.Test.YtffliemhdjcflaaAiC
import Derived.IntWalk
namespace Go.Ai
structure GOp where
  kind : Int
  a : Int
  deriving DecidableEq, Inhabited
structure GMethod where
  args : Int
  temps : Int
  ops : List GOp
  deriving DecidableEq, Inhabited
structure GVal where
  kind : Int
  num : Int
  deriving DecidableEq, Inhabited
structure GCall where
  method : Int
  pc : Int
  temps : List GVal
  stack : List GVal
  sender : Int
  dead : Bool
  deriving DecidableEq, Inhabited
structure GHeap where
  calls : List GCall
  now : Int
  born : Int
  said : List GVal
  code : Int
  deriving DecidableEq, Inhabited
abbrev GProg := List GMethod
abbrev vi (n : Int) : AVal := .int .i64 n
@[simp] def eOp (o : GOp) : List AVal := [vi o.kind, vi o.a]
@[simp] def eVal (v : GVal) : List AVal := [vi v.kind, vi v.num]
abbrev lOp (l : List GOp) : AVal := .list (l.map eOp)
abbrev lVal (l : List GVal) : AVal := .list (l.map eVal)
@[simp] def eMethod (m : GMethod) : List AVal := [vi m.args, vi m.temps, lOp m.ops]
abbrev lMethod (l : List GMethod) : AVal := .list (l.map eMethod)
@[simp] def eCall (c : GCall) : List AVal := [vi c.method, vi c.pc, lVal c.temps, lVal c.stack, vi c.sender, .bool c.dead]
abbrev lCall (l : List GCall) : AVal := .list (l.map eCall)
abbrev lInt (l : List Int) : AVal := .list (l.map fun n => [vi n])
@[simp] def eHeap (h : GHeap) : List AVal := [lCall h.calls, vi h.now, vi h.born, lVal h.said, vi h.code]
abbrev aProg (p : GProg) : AVal := .agg [lMethod p]
abbrev aOp (o : GOp) : AVal := .agg [vi o.kind, vi o.a]
abbrev aVal (v : GVal) : AVal := .agg [vi v.kind, vi v.num]
abbrev aMethod (m : GMethod) : AVal := .agg [vi m.args, vi m.temps, lOp m.ops]
abbrev aCall (c : GCall) : AVal := .agg [vi c.method, vi c.pc, lVal c.temps, lVal c.stack, vi c.sender, .bool c.dead]
abbrev aHeap (h : GHeap) : AVal := .agg [lCall h.calls, vi h.now, vi h.born, lVal h.said, vi h.code]

theorem wrap_id {x : Int} (h1 : -9223372036854775808 ≤ x) (h2 : x ≤ 9223372036854775807) : IntKind.i64.wrap x = x := IntWalk.i64_in x ⟨h1, h2⟩

/-! widths of elements -/
theorem w_map {α : Type} {f : α → List AVal} {z : Nat} (h : ∀ x, (f x).length = z) (l : List α) : ∀ e ∈ l.map f, e.length = z := by
  intro e he
  obtain ⟨x, _, rfl⟩ := List.mem_map.1 he
  exact h x
theorem w_Op (l : List GOp) : ∀ e ∈ l.map eOp, e.length = 2 := w_map (f := eOp) (z := 2) (fun _ => rfl) l
theorem w_Val (l : List GVal) : ∀ e ∈ l.map eVal, e.length = 2 := w_map (f := eVal) (z := 2) (fun _ => rfl) l
theorem w_Method (l : List GMethod) : ∀ e ∈ l.map eMethod, e.length = 3 := w_map (f := eMethod) (z := 3) (fun _ => rfl) l
theorem w_Call (l : List GCall) : ∀ e ∈ l.map eCall, e.length = 6 := w_map (f := eCall) (z := 6) (fun _ => rfl) l
theorem w_Int (l : List Int) : ∀ e ∈ l.map (fun n => [vi n]), e.length = 1 := w_map (f := (fun n => [vi n])) (z := 1) (fun _ => rfl) l

/-- An index into a list: in it, or none. -/
def at? {α : Type} (l : List α) (i : Int) : Option α := if 0 ≤ i then l[i.toNat]? else none
theorem at?_some {α : Type} {l : List α} {i : Int} (h0 : 0 ≤ i) (h1 : i < l.length) : ∃ x, at? l i = some x := by
  unfold at?; rw [if_pos h0]
  exact ⟨_, List.getElem?_eq_getElem (by omega)⟩
theorem at?_lt {α : Type} {l : List α} {i : Int} {x : α} (h : at? l i = some x) : 0 ≤ i ∧ i < l.length := by
  unfold at? at h
  split at h
  · have := (List.getElem?_eq_some_iff.1 h).1; omega
  · cases h
theorem at?_get {α : Type} {l : List α} {i : Int} {x : α} (h : at? l i = some x) : l[i.toNat]? = some x := by
  unfold at? at h
  split at h
  · exact h
  · cases h
theorem at?_mem {α : Type} {l : List α} {i : Int} {x : α} (h : at? l i = some x) : x ∈ l := List.mem_of_getElem? (at?_get h)
end Go.Ai
