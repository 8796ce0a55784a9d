/- Programs, heaps and machines as plain data, and how they stand as values of the abstract machine. Calls that see nothing of the heap, as equations; tests as 'if'. What of the heap belongs to whom: nested lists as data, each list an object of its own. Loops that count, and answers that are owned. The laws' functions of lists: equal, measured, turned; by their common text. The laws' functions that turn lists into owned ones, by their common text. -/
import Derived.Test.YtffliemhdjcflaaB1
import Derived.IntWalk
namespace Go.Ai
structure GOp where
  kind : Int
  a : Int
  deriving DecidableEq, Inhabited
structure GMethod where
  args : Int
  temps : Int
  ops : List GOp
  deriving DecidableEq, Inhabited
structure GVal where
  kind : Int
  num : Int
  deriving DecidableEq, Inhabited
structure GCall where
  method : Int
  pc : Int
  temps : List GVal
  stack : List GVal
  sender : Int
  dead : Bool
  deriving DecidableEq, Inhabited
structure GHeap where
  calls : List GCall
  now : Int
  born : Int
  said : List GVal
  code : Int
  deriving DecidableEq, Inhabited
structure GFrame where
  method : Int
  pc : Int
  twin : Int
  temps : List GVal
  stack : List GVal
  deriving DecidableEq, Inhabited
structure GPage where
  base : Int
  frames : List GFrame
  deriving DecidableEq, Inhabited
structure GTwin where
  page : Int
  at_ : Int
  left : GCall
  deriving DecidableEq, Inhabited
structure GMach where
  cells : Int
  pages : List GPage
  order : List Int
  now : Int
  twins : List GTwin
  born : Int
  said : List GVal
  code : Int
  deriving DecidableEq, Inhabited
abbrev GProg := List GMethod
abbrev vi (n : Int) : AVal := .int .i64 n
@[simp] def eOp (o : GOp) : List AVal := [vi o.kind, vi o.a]
@[simp] def eVal (v : GVal) : List AVal := [vi v.kind, vi v.num]
abbrev lOp (l : List GOp) : AVal := .list (l.map eOp)
abbrev lVal (l : List GVal) : AVal := .list (l.map eVal)
@[simp] def eMethod (m : GMethod) : List AVal := [vi m.args, vi m.temps, lOp m.ops]
abbrev lMethod (l : List GMethod) : AVal := .list (l.map eMethod)
@[simp] def eCall (c : GCall) : List AVal := [vi c.method, vi c.pc, lVal c.temps, lVal c.stack, vi c.sender, .bool c.dead]
abbrev lCall (l : List GCall) : AVal := .list (l.map eCall)
abbrev lInt (l : List Int) : AVal := .list (l.map fun n => [vi n])
@[simp] def eHeap (h : GHeap) : List AVal := [lCall h.calls, vi h.now, vi h.born, lVal h.said, vi h.code]
@[simp] def eFrame (f : GFrame) : List AVal := [vi f.method, vi f.pc, vi f.twin, lVal f.temps, lVal f.stack]
abbrev lFrame (l : List GFrame) : AVal := .list (l.map eFrame)
@[simp] def ePage (g : GPage) : List AVal := [vi g.base, lFrame g.frames]
abbrev lPage (l : List GPage) : AVal := .list (l.map ePage)
@[simp] def eTwin (t : GTwin) : List AVal := [vi t.page, vi t.at_, vi t.left.method, vi t.left.pc, lVal t.left.temps, lVal t.left.stack, vi t.left.sender, .bool t.left.dead]
abbrev lTwin (l : List GTwin) : AVal := .list (l.map eTwin)
@[simp] def eMach (m : GMach) : List AVal := [vi m.cells, lPage m.pages, lInt m.order, vi m.now, lTwin m.twins, vi m.born, lVal m.said, vi m.code]
abbrev aFrame (f : GFrame) : AVal := .agg [vi f.method, vi f.pc, vi f.twin, lVal f.temps, lVal f.stack]
abbrev aPage (g : GPage) : AVal := .agg [vi g.base, lFrame g.frames]
abbrev aMach (m : GMach) : AVal := .agg [vi m.cells, lPage m.pages, lInt m.order, vi m.now, lTwin m.twins, vi m.born, lVal m.said, vi m.code]
abbrev aProg (p : GProg) : AVal := .agg [lMethod p]
abbrev aOp (o : GOp) : AVal := .agg [vi o.kind, vi o.a]
abbrev aVal (v : GVal) : AVal := .agg [vi v.kind, vi v.num]
abbrev aMethod (m : GMethod) : AVal := .agg [vi m.args, vi m.temps, lOp m.ops]
abbrev aCall (c : GCall) : AVal := .agg [vi c.method, vi c.pc, lVal c.temps, lVal c.stack, vi c.sender, .bool c.dead]
abbrev aHeap (h : GHeap) : AVal := .agg [lCall h.calls, vi h.now, vi h.born, lVal h.said, vi h.code]

theorem wrap_id {x : Int} (h1 : -9223372036854775808 ≤ x) (h2 : x ≤ 9223372036854775807) : IntKind.i64.wrap x = x := IntWalk.i64_in x ⟨h1, h2⟩

/-! widths of elements -/
theorem w_map {α : Type} {f : α → List AVal} {z : Nat} (h : ∀ x, (f x).length = z) (l : List α) : ∀ e ∈ l.map f, e.length = z := by
  intro e he
  obtain ⟨x, _, rfl⟩ := List.mem_map.1 he
  exact h x
theorem w_Op (l : List GOp) : ∀ e ∈ l.map eOp, e.length = 2 := w_map (f := eOp) (z := 2) (fun _ => rfl) l
theorem w_Val (l : List GVal) : ∀ e ∈ l.map eVal, e.length = 2 := w_map (f := eVal) (z := 2) (fun _ => rfl) l
theorem w_Method (l : List GMethod) : ∀ e ∈ l.map eMethod, e.length = 3 := w_map (f := eMethod) (z := 3) (fun _ => rfl) l
theorem w_Call (l : List GCall) : ∀ e ∈ l.map eCall, e.length = 6 := w_map (f := eCall) (z := 6) (fun _ => rfl) l
theorem w_Frame (l : List GFrame) : ∀ e ∈ l.map eFrame, e.length = 5 := w_map (f := eFrame) (z := 5) (fun _ => rfl) l
theorem w_Page (l : List GPage) : ∀ e ∈ l.map ePage, e.length = 2 := w_map (f := ePage) (z := 2) (fun _ => rfl) l
theorem w_Twin (l : List GTwin) : ∀ e ∈ l.map eTwin, e.length = 8 := w_map (f := eTwin) (z := 8) (fun _ => rfl) l
theorem w_Int (l : List Int) : ∀ e ∈ l.map (fun n => [vi n]), e.length = 1 := w_map (f := (fun n => [vi n])) (z := 1) (fun _ => rfl) l

end Go.Ai
set_option linter.unusedSimpArgs false
namespace Go.Ai
section
variable {AP : Nat → Option AFn} {mt : Nat → Nat → Option Nat}
/-- What is answered, written out; some next number. -/
def Gv (k : Nat) (v : AVal) (x : R) : Prop := ∃ r m g, x = some (r, ⟨m, g⟩) ∧ k ≤ m ∧ frz 8 g r = some v
theorem Gv.some {k m : Nat} {v r : AVal} {g : Heap'} (hm : k ≤ m) (hf : frz 8 g r = some v) : Gv k v (some (r, ⟨m, g⟩)) := ⟨r, m, g, rfl, hm, hf⟩
theorem Gv.bool {k m : Nat} {b c : Bool} {g : Heap'} (hm : k ≤ m) (h : b = c) : Gv k (.bool c) (Option.some (.bool b, ⟨m, g⟩)) := ⟨.bool b, m, g, rfl, hm, by rw [h]; rfl⟩
theorem Gv.ite {k : Nat} {v : AVal} {c : Prop} [Decidable c] {x y : R} (h1 : c → Gv k v x) (h2 : ¬ c → Gv k v y) : Gv k v (if c then x else y) := by
  split
  · exact h1 ‹_›
  · exact h2 ‹_›
theorem le_nxt {k n f : Nat} {as : List AVal} (h : k ≤ n) : k ≤ nxt AP mt f as n := Nat.le_trans h nxt_le
theorem q_of {f : Nat} {as : List AVal} {v : AVal} (ha : frzs noObj as = some as) (h : ∀ k, Gv k v (run AP mt f as ⟨k, noObj⟩)) (G : AG) : callBy (run AP mt) (.alone false true) f as G = some (v, ⟨nxt AP mt f as G.next, G.obj⟩) := by
  obtain ⟨r, m, g, h1, h2, h3⟩ := h G.next
  exact call_alone ha (prun_of h1 h2 h3)
theorem cnd_ite {b : Bool} {x y : AC} {fr : Fr} {G : AG} {S : List KF} : cndS AP mt (.bool b) x y fr G S = if b = true then evS AP mt x fr G S else evS AP mt y fr G S := by cases b <;> rfl
theorem gS_ite {b : Bool} {s : Nat} {is : List AI} {fr : Fr} {G : AG} {ks : List Nat} {S : List KF} : gS AP mt (.bool b) s is fr G ks S = if b = true then isS AP mt (resG s true is) fr G ks S else isS AP mt (resG s false is) fr G ks S := by cases b <;> rfl
end
end Go.Ai
set_option linter.unusedSimpArgs false
set_option linter.unusedVariables false
namespace Go.Ai

/-- Which place each object is for. -/
abbrev Ow := Nat → Option (List Nat)
def updW (ow : Ow) (d : Nat) (q : List Nat) : Ow := fun t => if t = d then some q else ow t
/-- The value v stands for the data a, at the place p. -/
inductive Own (g : Heap') (ow : Ow) : List Nat → AVal → AVal → Prop
  | int (p k n) : Own g ow p (.int k n) (.int k n)
  | bool (p b) : Own g ow p (.bool b) (.bool b)
  | im (p x) : Own g ow p (.tuple [x]) x
  | nil (p) : Own g ow p (.list []) .nils
  | ls (p) (id : Nat) (es es' : Obj') (hne : es' ≠ []) (hw : ow id = some p) (hg : g id = some es) (hl : es.length = es'.length)
      (hr : ∀ (i : Nat) (row' row : List AVal), es'[i]? = some row' → es[i]? = some row → row.length = row'.length)
      (hc : ∀ (i : Nat) (row' row : List AVal) (c : Nat) (a x : AVal), es'[i]? = some row' → es[i]? = some row → row'[c]? = some a → row[c]? = some x → Own g ow (p ++ [i, c]) a x) : Own g ow p (.list es') (.slice id 0 es'.length)
/-- A row, from cell c on. -/
def RowR (g : Heap') (ow : Ow) (p : List Nat) (i : Nat) : Nat → List AVal → List AVal → Prop
  | _, [], [] => True
  | c, a :: as, x :: xs => Own g ow (p ++ [i, c]) a x ∧ RowR g ow p i (c + 1) as xs
  | _, _, _ => False
section
variable {g g' : Heap'} {ow ow' : Ow}
theorem RowR.iff {p : List Nat} {i : Nat} : ∀ {as xs : List AVal} {c : Nat}, RowR g ow p i c as xs ↔ xs.length = as.length ∧ ∀ (k : Nat) (a x : AVal), as[k]? = some a → xs[k]? = some x → Own g ow (p ++ [i, c + k]) a x := by
  intro as
  induction as with
  | nil => intro xs c; cases xs <;> simp [RowR]
  | cons a as ih =>
    intro xs c
    cases xs with
    | nil => simp [RowR]
    | cons x xs =>
      simp only [RowR, ih, List.length_cons, Nat.add_right_cancel_iff]
      constructor
      · rintro ⟨h1, h2, h3⟩
        refine ⟨h2, fun k b y hb hy => ?_⟩
        cases k with
        | zero => simp at hb hy; subst hb hy; exact h1
        | succ k => have := h3 k b y (by simpa using hb) (by simpa using hy); rw [show c + (k + 1) = c + 1 + k by omega]; exact this
      · rintro ⟨h1, h2⟩
        exact ⟨h2 0 a x rfl rfl, h1, fun k b y hb hy => by have := h2 (k + 1) b y (by simpa using hb) (by simpa using hy); rw [show c + 1 + k = c + (k + 1) by omega]; exact this⟩
/-- What is kept. -/
def Keep (g : Heap') (ow : Ow) (g' : Heap') (ow' : Ow) (P : Nat → List Nat → Prop) : Prop := ∀ j q, ow j = some q → P j q → (∀ es, g j = some es → g' j = some es) ∧ ow' j = some q
theorem Keep.refl {P : Nat → List Nat → Prop} : Keep g ow g ow P := fun _ _ h _ => ⟨fun _ h => h, h⟩
theorem Keep.upd {P : Nat → List Nat → Prop} (h : Keep g ow g' ow' P) {id : Nat} {X : Option Obj'} (hi : ∀ q, ow id = some q → ¬ P id q) : Keep g ow (updO g' id X) ow' P := by
  intro j q hj hp
  obtain ⟨h1, h2⟩ := h j q hj hp
  refine ⟨fun es he => ?_, h2⟩
  simp only [updO]
  rw [if_neg, h1 es he]
  rintro rfl
  exact hi q hj hp
theorem Keep.own {P : Nat → List Nat → Prop} (h : Keep g ow g' ow' P) {id : Nat} {q0 : List Nat} (hi : ∀ q, ow id = some q → ¬ P id q) : Keep g ow g' (updW ow' id q0) P := by
  intro j q hj hp
  obtain ⟨h1, h2⟩ := h j q hj hp
  refine ⟨h1, ?_⟩
  simp only [updW]
  rw [if_neg, h2]
  rintro rfl
  exact hi q hj hp
theorem Keep.mono {P P' : Nat → List Nat → Prop} (h : Keep g ow g' ow' P) (hp : ∀ j q, ow j = some q → P' j q → P j q) : Keep g ow g' ow' P' := fun j q hj hq => h j q hj (hp j q hj hq)
theorem Keep.trans {g'' : Heap'} {ow'' : Ow} {P P' : Nat → List Nat → Prop} (h : Keep g ow g' ow' P) (k : Keep g' ow' g'' ow'' P') (hp : ∀ j q, ow j = some q → P j q → P' j q) : Keep g ow g'' ow'' P := by
  intro j q hj hq
  obtain ⟨h1, h2⟩ := h j q hj hq
  obtain ⟨h3, h4⟩ := k j q h2 (hp j q hj hq)
  exact ⟨fun es he => h3 es (h1 es he), h4⟩
theorem Own.mono {p : List Nat} {a v : AVal} (h : Own g ow p a v) : Keep g ow g' ow' (fun _ q => p <+: q) → Own g' ow' p a v := by
  induction h with
  | int p k n => intro _; exact .int p k n
  | bool p b => intro _; exact .bool p b
  | im p x => intro _; exact .im p x
  | nil p => intro _; exact .nil p
  | ls p id es es' hne hw hg hl hr hc ih =>
    intro hk
    obtain ⟨h1, h2⟩ := hk id p hw (List.prefix_refl p)
    refine .ls p id es es' hne h2 (h1 es hg) hl hr (fun i row' row c a x h3 h4 h5 h6 => ih i row' row c a x h3 h4 h5 h6 (hk.mono (fun j q _ hq => ?_)))
    exact List.IsPrefix.trans (List.prefix_append p _) hq
theorem Own.list_inv {p : List Nat} {es' : Obj'} {v : AVal} (h : Own g ow p (.list es') v) : (es' = [] ∧ v = .nils) ∨ (es' ≠ [] ∧ ∃ id es, v = .slice id 0 es'.length ∧ ow id = some p ∧ g id = some es ∧ es.length = es'.length ∧
    ∀ (i : Nat) (row' : List AVal), es'[i]? = some row' → ∃ row, es[i]? = some row ∧ RowR g ow p i 0 row' row) := by
  cases h with
  | nil => exact .inl ⟨rfl, rfl⟩
  | ls _ id es _ hne hw hg hl hr hc =>
    refine .inr ⟨hne, id, es, rfl, hw, hg, hl, fun i row' hi => ?_⟩
    have hlt := (List.getElem?_eq_some_iff.1 hi).1
    have hrow : es[i]? = some (es[i]'(by omega)) := List.getElem?_eq_getElem _
    exact ⟨_, hrow, RowR.iff.2 ⟨hr i _ _ hi hrow, fun k a x ha hx => by rw [Nat.zero_add]; exact hc i _ _ k a x hi hrow ha hx⟩⟩
theorem Own.mk {p : List Nat} {id n : Nat} {es es' : Obj'} (hne : es' ≠ []) (hn : n = es'.length) (hw : ow id = some p) (hg : g id = some es) (hl : es.length = es'.length)
    (hr : ∀ (i : Nat) (row' row : List AVal), es'[i]? = some row' → es[i]? = some row → RowR g ow p i 0 row' row) : Own g ow p (.list es') (.slice id 0 n) := by
  subst hn
  refine .ls p id es es' hne hw hg hl (fun i row' row h1 h2 => (RowR.iff.1 (hr i row' row h1 h2)).1) (fun i row' row c a x h1 h2 h3 h4 => ?_)
  have := (RowR.iff.1 (hr i row' row h1 h2)).2 c a x h3 h4
  rwa [Nat.zero_add] at this
theorem RowR.mono {p : List Nat} {i : Nat} : ∀ {as xs : List AVal} {c : Nat}, RowR g ow p i c as xs → Keep g ow g' ow' (fun _ q => p ++ [i] <+: q) → RowR g' ow' p i c as xs := by
  intro as xs c h hk
  rw [RowR.iff] at h ⊢
  refine ⟨h.1, fun k a x ha hx => (h.2 k a x ha hx).mono (hk.mono (fun j q _ hq => ?_))⟩
  refine List.IsPrefix.trans ?_ hq
  simp
/-- A row is turned. -/
theorem Own.setRow {p : List Nat} {id n i : Nat} {es es' : Obj'} {row2' row2 : List AVal} (h : Own g ow p (.list es') (.slice id 0 n)) (hg : g id = some es) (hi : i < es'.length)
    (hg' : g' id = some (es.set i row2)) (hw' : ow' id = some p) (hrow : RowR g' ow' p i 0 row2' row2) (hk : Keep g ow g' ow' (fun _ q => ∃ k, k ≠ i ∧ p ++ [k] <+: q)) : Own g' ow' p (.list (es'.set i row2')) (.slice id 0 n) := by
  rcases h.list_inv with ⟨_, h2⟩ | ⟨hne, id', es0, h1, h2, h3, h4, h5⟩
  · cases h2
  injection h1 with h1 _ h1n
  subst h1 h1n
  rw [hg] at h3
  injection h3 with h3
  subst h3
  refine Own.mk (by intro e; have := congrArg List.length e; simp at this; exact hne this) (by simp) hw' hg' (by simp [h4]) (fun k row' row hr1 hr2 => ?_)
  by_cases hki : k = i
  · subst hki
    rw [List.getElem?_set_self (by omega)] at hr1
    rw [List.getElem?_set_self (by omega)] at hr2
    injection hr1 with hr1
    injection hr2 with hr2
    subst hr1 hr2
    exact hrow
  · rw [List.getElem?_set_ne (Ne.symm hki)] at hr1 hr2
    obtain ⟨row0, h6, h7⟩ := h5 k row' hr1
    rw [hr2] at h6
    injection h6 with h6
    subst h6
    exact h7.mono (hk.mono (fun j q _ hq => ⟨k, hki, hq⟩))
/-- Scalars alone. -/
def scalA : AVal → Bool
  | .int _ _ | .bool _ => true
  | _ => false
theorem own_scal {p : List Nat} {x : AVal} (h : scalA x = true) : Own g ow p x x := by
  cases x <;> first | exact .int _ _ _ | exact .bool _ _ | cases h
theorem own_scal_inv {p : List Nat} {x v : AVal} (h : scalA x = true) (ho : Own g ow p x v) : v = x := by
  cases ho <;> first | rfl | cases h
theorem rowR_scal {p : List Nat} {i : Nat} : ∀ {row : List AVal} {c : Nat}, (∀ x ∈ row, scalA x = true) → RowR g ow p i c row row := by
  intro row c h
  rw [RowR.iff]
  refine ⟨rfl, fun k a x ha hx => ?_⟩
  rw [ha] at hx
  injection hx with hx
  subst hx
  exact own_scal (h _ (List.mem_of_getElem? ha))
theorem rowR_scal_inv {p : List Nat} {i : Nat} {row' row : List AVal} {c : Nat} (h : ∀ x ∈ row', scalA x = true) (hr : RowR g ow p i c row' row) : row = row' := by
  rw [RowR.iff] at hr
  refine List.ext_getElem? (fun k => ?_)
  rcases Nat.lt_or_ge k row'.length with hk | hk
  · have h1 : row'[k]? = some row'[k] := List.getElem?_eq_getElem hk
    have h2 : row[k]? = some (row[k]'(by omega)) := List.getElem?_eq_getElem _
    have := own_scal_inv (h _ (List.mem_of_getElem? h1)) (hr.2 k _ _ h1 h2)
    rw [h1, h2, this]
  · rw [List.getElem?_eq_none hk, List.getElem?_eq_none (by omega)]
/-- A list of rows of scalars. -/
theorem Own.flat {p : List Nat} {es' : Obj'} {v : AVal} (hs : ∀ e ∈ es', ∀ x ∈ e, scalA x = true) (h : Own g ow p (.list es') v) : (es' = [] ∧ v = .nils) ∨ (es' ≠ [] ∧ ∃ id, v = .slice id 0 es'.length ∧ ow id = some p ∧ g id = some es') := by
  rcases h.list_inv with h1 | ⟨hne, id, es, h1, h2, h3, h4, h5⟩
  · exact .inl h1
  · refine .inr ⟨hne, id, h1, h2, ?_⟩
    rw [h3]
    congr 1
    refine List.ext_getElem? (fun k => ?_)
    rcases Nat.lt_or_ge k es'.length with hk | hk
    · have h6 : es'[k]? = some es'[k] := List.getElem?_eq_getElem hk
      obtain ⟨row, h7, h8⟩ := h5 k _ h6
      rw [h7, h6, rowR_scal_inv (hs _ (List.mem_of_getElem? h6)) h8]
    · rw [List.getElem?_eq_none hk, List.getElem?_eq_none (by omega)]
theorem Own.mkFlat {p : List Nat} {id n : Nat} {es' : Obj'} (hs : ∀ e ∈ es', ∀ x ∈ e, scalA x = true) (hne : es' ≠ []) (hn : n = es'.length) (hw : ow id = some p) (hg : g id = some es') : Own g ow p (.list es') (.slice id 0 n) :=
  Own.mk hne hn hw hg rfl (fun i row' row h1 h2 => by rw [h1] at h2; injection h2 with h2; subst h2; exact rowR_scal (hs _ (List.mem_of_getElem? h1)))
/-- How deep data are. -/
def dep : Nat → AVal → Bool
  | 0, _ => false
  | d + 1, .list es => es.all fun e => e.all (dep d)
  | _ + 1, .int _ _ => true
  | _ + 1, .bool _ => true
  | _ + 1, _ => false
theorem omap_of {α β : Type} {f : α → Option β} : ∀ {l : List α} {l' : List β}, l.length = l'.length → (∀ (i : Nat) x y, l[i]? = some x → l'[i]? = some y → f x = some y) → omap f l = some l' := by
  intro l
  induction l with
  | nil => intro l' h _; cases l' with
    | nil => rfl
    | cons _ _ => simp at h
  | cons x xs ih =>
    intro l' h hf
    cases l' with
    | nil => simp at h
    | cons y ys =>
      simp only [omap, hf 0 x y rfl rfl, ih (by simpa using h) (fun i a b ha hb => hf (i + 1) a b (by simpa using ha) (by simpa using hb)), Option.bind_some]
/-- What is owned reads as its data. -/
theorem Own.frz {p : List Nat} {a v : AVal} (h : Own g ow p a v) : ∀ d, dep d a = true → Ai.frz d g v = some a := by
  induction h with
  | int p k n => intro d hd; cases d with
    | zero => cases hd
    | succ d => rfl
  | bool p b => intro d hd; cases d with
    | zero => cases hd
    | succ d => rfl
  | im p x => intro d hd; cases d <;> cases hd
  | nil p => intro d hd; cases d with
    | zero => cases hd
    | succ d => rfl
  | ls p id es es' hne hw hg hl hr hc ih =>
    intro d hd
    cases d with
    | zero => cases hd
    | succ d =>
      simp only [dep, List.all_eq_true] at hd
      show ((g id).bind fun es0 => if 0 + es'.length ≤ es0.length then (omap (omap (Ai.frz d g)) ((es0.drop 0).take es'.length)).map AVal.list else none) = _
      rw [hg]
      have h0 : (es.drop 0).take es'.length = es := by rw [← hl]; simp
      simp only [Option.bind_some, h0, Nat.zero_add, hl, Nat.le_refl, if_true]
      rw [omap_of (l' := es') hl (fun i row row' h1 h2 => omap_of (hr i row' row h2 h1) (fun c x a h3 h4 => ih i row' row c a x h2 h1 h4 h3 d (hd row' (List.mem_of_getElem? h2) a (List.mem_of_getElem? h4))))]
      rfl
/-- Of what is owned nothing is read only. -/
theorem Own.noImm {p : List Nat} {a v : AVal} (h : Own g ow p a v) (hd : ∀ x, a ≠ .tuple [x]) : Ai.noImm v = true := by
  cases h <;> first | rfl | exact absurd rfl (hd _)
end
end Go.Ai
set_option linter.unusedSimpArgs false
set_option linter.unusedVariables false
namespace Go.Ai
section
variable {AP : Nat → Option AFn} {mt : Nat → Nat → Option Nat}
/-- A loop that counts to n: F the frame, Inv what holds. -/
theorem loop_for {σ : Type} {l b : AC} {S : List KF} (P : R → Prop) (n : Nat) (F : Nat → σ → Fr) (Inv : Nat → σ → AG → Prop)
    (hu : ∀ fr G S, evS AP mt l fr G S = evS AP mt b fr G S)
    (hx : ∀ s G, Inv n s G → P (evS AP mt b (F n s) G (.loop l :: S)))
    (hs : ∀ i s G, i < n → Inv i s G → (∀ s' G', Inv (i + 1) s' G' → P (evS AP mt (.loop l) (F (i + 1) s') G' S)) → P (evS AP mt b (F i s) G (.loop l :: S))) :
    ∀ (j i : Nat) (s : σ) (G : AG), i + j = n → Inv i s G → P (evS AP mt (.loop l) (F i s) G S) := by
  intro j
  induction j with
  | zero =>
    intro i s G hij hi
    have : i = n := by omega
    subst this
    rw [S_loop, hu]
    exact hx s G hi
  | succ j ih =>
    intro i s G hij hi
    rw [S_loop, hu]
    exact hs i s G (by omega) hi (fun s' G' h => ih (i + 1) s' G' (by omega) h)
def QQ (AP : Nat → Option AFn) (mt : Nat → Nat → Option Nat) (f : Nat) (as : List AVal) (v : AVal) : Prop := ∀ G : AG, callBy (run AP mt) (.alone false true) f as G = some (v, ⟨nxt AP mt f as G.next, G.obj⟩)
theorem QQ.of {f : Nat} {as : List AVal} {v : AVal} (ha : frzs noObj as = some as) (h : ∀ k, Gv k v (run AP mt f as ⟨k, noObj⟩)) : QQ AP mt f as v := fun G => q_of ha h G
/-- An owned answer: its cells stand for row'. -/
def OwnRun (AP : Nat → Option AFn) (mt : Nat → Nat → Option Nat) (f : Nat) (as : List AVal) (row' : List AVal) : Prop :=
  ∀ (k : Nat) (p : List Nat) (i c : Nat), ∃ r row m g ow, run AP mt f as ⟨k, noObj⟩ = some (r, ⟨m, g⟩) ∧ cellsOf r = some row ∧ gv r = some r ∧ k ≤ m ∧ RowR g ow p i c row' row ∧
    (∀ id q, ow id = some q → k ≤ id ∧ id < m ∧ p ++ [i] <+: q) ∧ ∀ id, id < k → g id = none
/-- An owned struct. -/
def OutA (k : Nat) (p : List Nat) (i c : Nat) (row' : List AVal) (x : R) : Prop :=
  ∃ row m g ow, x = some (.agg row, ⟨m, g⟩) ∧ k ≤ m ∧ RowR g ow p i c row' row ∧ (∀ id q, ow id = some q → k ≤ id ∧ id < m ∧ p ++ [i] <+: q) ∧ ∀ id, id < k → g id = none
def OwnRunA (AP : Nat → Option AFn) (mt : Nat → Nat → Option Nat) (f : Nat) (as : List AVal) (row' : List AVal) : Prop :=
  ∀ (k : Nat) (p : List Nat) (i c : Nat), OutA k p i c row' (run AP mt f as ⟨k, noObj⟩)
theorem OwnRunA.own {f : Nat} {as row' : List AVal} (h : OwnRunA AP mt f as row') : OwnRun AP mt f as row' := by
  intro k p i c
  obtain ⟨row, m, g, ow, h1, h2, h3, h4, h5⟩ := h k p i c
  exact ⟨.agg row, row, m, g, ow, h1, rfl, rfl, h2, h3, h4, h5⟩
def joinW (k : Nat) (ow ow' : Ow) : Ow := fun t => if t < k then ow t else ow' t
theorem ovr_none {g h : Heap'} {id : Nat} (hn : h id = none) : ovr g h id = g id := by simp [ovr, hn]
theorem ovr_some {g h : Heap'} {id : Nat} {es : Obj'} (hn : h id = some es) : ovr g h id = some es := by simp [ovr, hn]
/-- What was there stays. -/
theorem keep_ovr_l {g h : Heap'} {ow ow' : Ow} {k : Nat} {P : Nat → List Nat → Prop} (hf : ∀ id q, ow id = some q → id < k) (hn : ∀ id, id < k → h id = none) : Keep g ow (ovr g h) (joinW k ow ow') P := by
  intro j q hj _
  have := hf j q hj
  refine ⟨fun es he => by rw [ovr_none (hn j this)]; exact he, ?_⟩
  simp only [joinW]
  rw [if_pos this, hj]
theorem keep_ovr_r {g h : Heap'} {ow ow' : Ow} {k : Nat} {P : Nat → List Nat → Prop} (hf : ∀ id q, ow' id = some q → k ≤ id) : Keep h ow' (ovr g h) (joinW k ow ow') P := by
  intro j q hj _
  have := hf j q hj
  refine ⟨fun es he => ovr_some he, ?_⟩
  simp only [joinW]
  rw [if_neg (by omega), hj]
/-- What has been made so far. -/
structure Acc (k : Nat) (p : List Nat) (m : Nat) (H : Heap') (W : Ow) : Prop where
  le : k ≤ m
  f : ∀ id q, W id = some q → k ≤ id ∧ id < m ∧ p <+: q
  n : ∀ id, id < k → H id = none
theorem Acc.start (k : Nat) (p : List Nat) : Acc k p k noObj (fun _ => none) := ⟨Nat.le_refl _, fun _ _ h => (by cases h), fun _ _ => rfl⟩
theorem Acc.next {k m m' : Nat} {p : List Nat} {H g : Heap'} {W ow : Ow} (A : Acc k p m H W) (hm : m ≤ m') (hf : ∀ id q, ow id = some q → m ≤ id ∧ id < m' ∧ p <+: q) (hn : ∀ id, id < m → g id = none) :
    Acc k p m' (ovr H g) (joinW m W ow) ∧ (∀ q a v, Own H W q a v → Own (ovr H g) (joinW m W ow) q a v) ∧ (∀ q a v, Own g ow q a v → Own (ovr H g) (joinW m W ow) q a v) := by
  refine ⟨⟨Nat.le_trans A.le hm, fun id q h => ?_, fun id h => ?_⟩, fun q a v h => h.mono (keep_ovr_l (fun id q hq => (A.f id q hq).2.1) hn), fun q a v h => h.mono (keep_ovr_r (fun id q hq => (hf id q hq).1))⟩
  · simp only [joinW] at h
    have := A.le
    split at h
    · obtain ⟨h1, h2, h3⟩ := A.f id q h; exact ⟨h1, by omega, h3⟩
    · obtain ⟨h1, h2, h3⟩ := hf id q h; exact ⟨by omega, h2, h3⟩
  · have := A.le
    rw [ovr_none (hn id (by omega))]; exact A.n id h
/-- A row of one cell. -/
theorem RowR.one {g : Heap'} {ow : Ow} {p : List Nat} {i c : Nat} {a : AVal} {row : List AVal} (h : RowR g ow p i c [a] row) : ∃ v, row = [v] ∧ Own g ow (p ++ [i, c]) a v := by
  cases row with
  | nil => cases h
  | cons v vs => cases vs with
    | nil => exact ⟨v, rfl, h.1⟩
    | cons _ _ => exact h.2.elim
/-- A row reads as its data. -/
theorem RowR.frz {g : Heap'} {ow : Ow} {p : List Nat} {i d : Nat} : ∀ {row' row : List AVal} {c : Nat}, RowR g ow p i c row' row → (∀ a ∈ row', dep d a = true) → omap (frz d g) row = some row' := by
  intro row' row c h hd
  rw [RowR.iff] at h
  refine omap_of h.1 (fun k x a hx ha => (h.2 k a x ha hx).frz d (hd a (List.mem_of_getElem? ha)))
end
end Go.Ai
set_option linter.unusedSimpArgs false
set_option linter.unusedVariables false
namespace Go.Ai
attribute [local simp] cnd_ite gS_ite
/-! ## equal -/
section
variable {AP : Nat → Option AFn} {mt : Nat → Nat → Option Nat} {α : Type} {e : α → List AVal}
end
/-! ## measured -/
section
variable {AP : Nat → Option AFn} {mt : Nat → Nat → Option Nat} {α : Type} {e : α → List AVal}
end
end Go.Ai
set_option linter.unusedSimpArgs false
set_option linter.unusedVariables false
namespace Go.Ai
attribute [local simp] cnd_ite gS_ite
theorem splice_all {a b : List AVal} (h : a.length = b.length) : splice a 0 b = b := by
  induction a generalizing b with
  | nil => cases b with
    | nil => rfl
    | cons _ _ => simp at h
  | cons x xs ih => cases b with
    | nil => simp at h
    | cons y ys => simp only [splice]; rw [ih (by simpa using h)]
theorem not_pre {p : List Nat} {t : Nat} : ¬ p ++ [t] <+: p := by
  intro h
  have := h.length_le
  simp at this
  omega
section
variable {AP : Nat → Option AFn} {mt : Nat → Nat → Option Nat} {α : Type} {e : α → List AVal}
/-- Half turned. -/
structure Half (e : α → List AVal) (l : List α) (z k id : Nat) (p : List Nat) (i : Nat) (s : Obj' × Ow) (G : AG) : Prop where
  lt : id < G.next
  ob : G.obj id = some s.1
  len : s.1.length = l.length
  done : ∀ (t : Nat) (a : α) (row : List AVal), t < i → l[t]? = some a → s.1[t]? = some row → RowR G.obj s.2 p t 0 (e a) row
  todo : ∀ (t : Nat) (row : List AVal), s.1[t]? = some row → row.length = z
  own : s.2 id = some p
  fr : ∀ j q, s.2 j = some q → k ≤ j ∧ j < G.next ∧ p <+: q
  none : ∀ j, j < k → G.obj j = none
  kk : k ≤ id
theorem Half.step {l : List α} {z k id : Nat} {p : List Nat} {i : Nat} {es : Obj'} {ow : Ow} {G : AG} (h : Half e l z k id p i (es, ow) G) {a : α} (ha : l[i]? = some a) (hz : (e a).length = z) {row : List AVal} {m : Nat} {g : Heap'} {ow2 : Ow}
    (hm : G.next ≤ m) (hr : RowR g ow2 p i 0 (e a) row) (hf : ∀ id q, ow2 id = some q → G.next ≤ id ∧ id < m ∧ p ++ [i] <+: q) (hn : ∀ id, id < G.next → g id = .none) :
    Half e l z k id p (i + 1) (es.set i row, joinW G.next ow ow2) ⟨m, updO (ovr G.obj g) id (some (es.set i row))⟩ := by
  have h1 := h.lt
  have h2 : i < l.length := (List.getElem?_eq_some_iff.1 ha).1
  have hlen := h.len
  have hid := h.own
  have hrl : row.length = z := by rw [← hz]; exact (RowR.iff.1 hr).1
  refine ⟨by show id < m; omega, by simp [updO], by simpa using h.len, fun t b r0 ht hb hr0 => ?_, fun t r0 hr0 => ?_, ?_, fun j q hj => ?_, fun j hj => ?_, h.kk⟩
  · by_cases hti : t = i
    · subst hti
      rw [ha] at hb
      injection hb with hb
      subst hb
      dsimp only at hr0
      rw [List.getElem?_set_self (by rw [hlen]; exact h2)] at hr0
      injection hr0 with hr0
      subst hr0
      refine hr.mono ((keep_ovr_r (fun id q hq => (hf id q hq).1)).upd (fun q hq => ?_))
      have := (hf id q hq).1
      omega
    · dsimp only at hr0
      rw [List.getElem?_set_ne (Ne.symm hti)] at hr0
      refine (h.done t b r0 (by omega) hb hr0).mono ((keep_ovr_l (fun id q hq => (h.fr id q hq).2.1) hn).upd (fun q hq => ?_))
      dsimp only at hid hq
      rw [hid] at hq
      injection hq with hq
      subst hq
      exact not_pre
  · dsimp only at hr0
    by_cases hti : t = i
    · subst hti
      rw [List.getElem?_set_self (by rw [hlen]; exact h2)] at hr0
      injection hr0 with hr0
      subst hr0
      exact hrl
    · rw [List.getElem?_set_ne (Ne.symm hti)] at hr0
      exact h.todo t r0 hr0
  · simp only [joinW]; rw [if_pos h1]; exact hid
  · simp only [joinW] at hj
    split at hj
    · rename_i hlt
      obtain ⟨h3, h4, h5⟩ := h.fr j q hj
      exact ⟨h3, by show j < m; omega, h5⟩
    · obtain ⟨h3, h4, h5⟩ := hf j q hj
      have := h.kk
      exact ⟨by omega, h4, (List.prefix_append p [i]).trans h5⟩
  · have := h.kk
    simp only [updO]
    rw [if_neg (by omega), ovr_none (hn j (by omega))]
    exact h.none j hj
theorem Half.fin {l : List α} {z k id : Nat} {p : List Nat} {es : Obj'} {ow : Ow} {G : AG} (h : Half e l z k id p l.length (es, ow) G) (hne : l ≠ []) : Own G.obj ow p (.list (l.map e)) (.slice id 0 l.length) := by
  have hlen := h.len
  refine Own.mk (by simp [hne]) (by simp) h.own h.ob (by simpa using hlen) (fun t row' row h1 h2 => ?_)
  rw [List.getElem?_map] at h1
  simp only [Option.map_eq_some_iff] at h1
  obtain ⟨a, ha, rfl⟩ := h1
  exact h.done t a row (List.getElem?_eq_some_iff.1 ha).1 ha h2
end
end Go.Ai
