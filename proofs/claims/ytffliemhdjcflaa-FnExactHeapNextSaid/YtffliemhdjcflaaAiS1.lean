/- How a value, a heap and a frame of the abstract machine stand in the world of the model. -/
import Derived.Test.YtffliemhdjcflaaAiB
import Derived.WalkKit
import Derived.Maps.AppendAt
import Derived.Laws.CopyRow
set_option linter.unusedVariables false
namespace Go.Ai

/-- Where an object lies: its block, the cells of an element, how many elements there is room for. -/
structure OI where
  blk : Nat
  esz : Nat
  cap : Nat
structure Cx where
  n : Nat
  io : Nat → OI
  im : Nat → Option (Array Value)
structure SM where
  P : Program
  fm : Nat → Option FuncId
  tm : Nat → Option TypeId

/-- What a read only row leads to: element i, cell c. -/
def Cx.at (C : Cx) (b p : Nat) : Option Value := (C.im b).bind fun arr => arr[p]?

inductive VR (M : SM) (C : Cx) : AVal → Value → Prop
  | int (k n) : VR M C (.int k n) (.int k n)
  | bool (b) : VR M C (.bool b) (.bool b)
  | str (s) : VR M C (.str s) (.string s)
  | nilp : VR M C .nilp (.pointer none)
  | ptr (id i c) (h : id < C.n) : VR M C (.ptr id i c) (.pointer (some ⟨(C.io id).blk, i * (C.io id).esz + c, none⟩))
  | nils (a) : VR M C .nils (.slice a 0 0)
  | slice (id off len cap a) (h : id < C.n) (hl : len ≤ cap) (ha : (a = ⟨(C.io id).blk, off * (C.io id).esz, none⟩ ∧ off + cap = (C.io id).cap) ∨ cap = 0) :
      VR M C (.slice id off len) (.slice (some a) len cap)
  | list (es) (z b o cap : Nat) (A : Option Addr) (hz0 : 0 < z) (hl : es.length ≤ cap) (hA : es ≠ [] → A = some ⟨b, o, none⟩) (hz : ∀ e ∈ es, e.length = z)
      (hex : ∀ i e c, es[i]? = some e → c < z → ∃ y, C.at b (o + (i * z + c)) = some y ∧ y.oneCell' = true)
      (hv : ∀ i e c x y, es[i]? = some e → e[c]? = some x → C.at b (o + (i * z + c)) = some y → VR M C x y) : VR M C (.list es) (.slice A es.length cap)
  | iptr (es) (i c) (z b o : Nat) (hz0 : 0 < z) (hz : ∀ e ∈ es, e.length = z)
      (hex : ∀ i e c, es[i]? = some e → c < z → ∃ y, C.at b (o + (i * z + c)) = some y ∧ y.oneCell' = true)
      (hv : ∀ i e c x y, es[i]? = some e → e[c]? = some x → C.at b (o + (i * z + c)) = some y → VR M C x y) : VR M C (.iptr es i c) (.pointer (some ⟨b, o + (i * z + c), none⟩))
  | func (f k) (caps : List AVal) (args : Array Value) (hf : M.fm f = some k) (hl : caps.length = args.size) (h : ∀ (i : Nat) x y, caps[i]? = some x → args[i]? = some y → VR M C x y) :
      VR M C (.func f caps) (.func (.func k) #[] args)
  | nilf : VR M C .nilf .nilFunc
  | iface (tag t v V) (ht : M.tm tag = some t) (h : VR M C v V) : VR M C (.iface tag v) (.iface t V)
  | nili : VR M C .nili .nilIface
  | agg (cs : List AVal) (arr : Array Value) (hl : cs.length = arr.size) (h1 : ∀ y ∈ arr, y.oneCell' = true) (h : ∀ (i : Nat) x y, cs[i]? = some x → arr[i]? = some y → VR M C x y) :
      VR M C (.agg cs) (.agg arr)
  | tuple (cs : List AVal) (arr : Array Value) (hl : cs.length = arr.size) (h : ∀ (i : Nat) x y, cs[i]? = some x → arr[i]? = some y → VR M C x y) : VR M C (.tuple cs) (.tuple arr)

/-- More is known. -/
structure Cx.le (C C' : Cx) : Prop where
  n : C.n ≤ C'.n
  io : ∀ id, id < C.n → C'.io id = C.io id
  im : ∀ b arr, C.im b = some arr → C'.im b = some arr
theorem Cx.le.refl (C : Cx) : C.le C := ⟨Nat.le_refl _, fun _ _ => rfl, fun _ _ h => h⟩
theorem Cx.le.trans {A B C : Cx} (h : A.le B) (k : B.le C) : A.le C :=
  ⟨Nat.le_trans h.n k.n, fun id hid => (k.io id (Nat.lt_of_lt_of_le hid h.n)).trans (h.io id hid), fun b arr hb => k.im b arr (h.im b arr hb)⟩
theorem Cx.le.at {C C' : Cx} (h : C.le C') {b p : Nat} {y : Value} (ha : C.at b p = some y) : C'.at b p = some y := by
  unfold Cx.at at *
  simp only [Option.bind_eq_some_iff] at *
  obtain ⟨arr, h1, h2⟩ := ha
  exact ⟨arr, h.im _ _ h1, h2⟩
variable {M : SM}
theorem VR.mono {C C' : Cx} (hle : C.le C') {v : AVal} {V : Value} (h : VR M C v V) : VR M C' v V := by
  induction h with
  | int k n => exact .int k n
  | bool b => exact .bool b
  | str s => exact .str s
  | nilp => exact .nilp
  | ptr id i c h => rw [← hle.io id h]; exact .ptr id i c (Nat.lt_of_lt_of_le h hle.n)
  | nils a => exact .nils a
  | slice id off len cap a h hl ha => exact .slice id off len cap a (Nat.lt_of_lt_of_le h hle.n) hl (by rw [hle.io id h]; exact ha)
  | list es z b o cap A hz0 hl hA hz hex hv ih =>
    refine .list es z b o cap A hz0 hl hA hz (fun i e c he hc => ?_) (fun i e c x y he hx hy => ?_)
    · obtain ⟨y, h1, h2⟩ := hex i e c he hc
      exact ⟨y, hle.at h1, h2⟩
    · obtain ⟨y', h1, _⟩ := hex i e c he (by rw [← hz e (List.mem_of_getElem? he)]; exact (List.getElem?_eq_some_iff.1 hx).1)
      have h2 := hle.at h1
      rw [h2] at hy
      injection hy with hy
      subst hy
      exact ih i e c x y' he hx h1
  | iptr es i c z b o hz0 hz hex hv ih =>
    refine .iptr es i c z b o hz0 hz (fun i e c he hc => ?_) (fun i e c x y he hx hy => ?_)
    · obtain ⟨y, h1, h2⟩ := hex i e c he hc
      exact ⟨y, hle.at h1, h2⟩
    · obtain ⟨y', h1, _⟩ := hex i e c he (by rw [← hz e (List.mem_of_getElem? he)]; exact (List.getElem?_eq_some_iff.1 hx).1)
      have h2 := hle.at h1
      rw [h2] at hy
      injection hy with hy
      subst hy
      exact ih i e c x y' he hx h1
  | func f k caps args hf hl h ih => exact .func f k caps args hf hl ih
  | nilf => exact .nilf
  | iface tag t v V ht h ih => exact .iface tag t v V ht ih
  | nili => exact .nili
  | agg cs arr hl h1 h ih => exact .agg cs arr hl h1 ih
  | tuple cs arr hl h ih => exact .tuple cs arr hl ih

/-- A value of one cell. -/
structure CR (M : SM) (C : Cx) (x : AVal) (y : Value) : Prop where
  v : VR M C x y
  one : y.oneCell' = true
theorem CR.mono {C C' : Cx} (hle : C.le C') {x : AVal} {y : Value} (h : CR M C x y) : CR M C' x y := ⟨h.v.mono hle, h.one⟩
/-- Cells one behind the other, from place p on. -/
structure CsR (M : SM) (C : Cx) (cs : List AVal) (arr : Array Value) (p : Nat) : Prop where
  fit : p + cs.length ≤ arr.size
  at_ : ∀ c x y, cs[c]? = some x → arr[p + c]? = some y → CR M C x y
theorem CsR.mono {C C' : Cx} (hle : C.le C') {cs : List AVal} {arr : Array Value} {p : Nat} (h : CsR M C cs arr p) : CsR M C' cs arr p := ⟨h.fit, fun c x y h1 h2 => (h.at_ c x y h1 h2).mono hle⟩
theorem CsR.get {C : Cx} {cs : List AVal} {arr : Array Value} {p c : Nat} {x : AVal} (h : CsR M C cs arr p) (hx : cs[c]? = some x) : ∃ y, arr[p + c]? = some y ∧ CR M C x y := by
  have hc := (List.getElem?_eq_some_iff.1 hx).1
  have hlt : p + c < arr.size := by have := h.fit; omega
  exact ⟨arr[p + c], Array.getElem?_eq_getElem hlt, h.at_ c x _ hx (Array.getElem?_eq_getElem hlt)⟩

/-- An object in its block. -/
structure ObR (M : SM) (C : Cx) (o : OI) (es : Obj') (cur : Array Value) : Prop where
  pos : 0 < o.esz
  size : cur.size = o.cap * o.esz
  big : o.cap ≤ maxLen
  fit : es.length ≤ o.cap
  el : ∀ i e, es[i]? = some e → e.length = o.esz ∧ CsR M C e cur (i * o.esz)
theorem ObR.mono {C C' : Cx} (hle : C.le C') {o : OI} {es : Obj'} {cur : Array Value} (h : ObR M C o es cur) : ObR M C' o es cur :=
  ⟨h.pos, h.size, h.big, h.fit, fun i e he => ⟨(h.el i e he).1, (h.el i e he).2.mono hle⟩⟩

/-- The heap. -/
structure GR (M : SM) (C : Cx) (G : AG) (w : World) : Prop where
  n : C.n = G.next
  ob : ∀ id es, G.obj id = some es → id < G.next ∧ ∃ cur ty, w.heap[(C.io id).blk]? = some (.cells cur ty (0, 0)) ∧ ObR M C (C.io id) es cur
  inj : ∀ id id' es es', G.obj id = some es → G.obj id' = some es' → id ≠ id' → (C.io id).blk ≠ (C.io id').blk
  im : ∀ b arr, C.im b = some arr → (∃ ty fr, w.heap[b]? = some (.cells arr ty fr)) ∧ ∀ id es, G.obj id = some es → (C.io id).blk ≠ b
/-- The blocks of the heap's objects. -/
def live (C : Cx) (G : AG) (b : Nat) : Prop := ∃ id es, G.obj id = some es ∧ (C.io id).blk = b
theorem GR.lt {C : Cx} {G : AG} {w : World} (h : GR M C G w) {b : Nat} (hb : live C G b) : b < w.heap.size := by
  obtain ⟨id, es, h1, rfl⟩ := hb
  obtain ⟨_, cur, ty, h2, _⟩ := h.ob id es h1
  exact (Array.getElem?_eq_some_iff.1 h2).1
theorem GR.imlt {C : Cx} {G : AG} {w : World} (h : GR M C G w) {b : Nat} {arr : Array Value} (hb : C.im b = some arr) : b < w.heap.size := by
  obtain ⟨⟨ty, fr, h2⟩, _⟩ := h.im b arr hb
  exact (Array.getElem?_eq_some_iff.1 h2).1

/-- All but the blocks of L is as it was. -/
structure Un (w w' : World) (L : Nat → Prop) : Prop where
  os : w'.os = w.os
  tape : w'.tape = w.tape
  output : w'.output = w.output
  size : w.heap.size ≤ w'.heap.size
  blk : ∀ b, b < w.heap.size → ¬ L b → w'.heap[b]? = w.heap[b]?
  fz : ∀ a, w'.frozen? a = w.frozen? a
theorem Un.refl (w : World) (L : Nat → Prop) : Un w w L := ⟨rfl, rfl, rfl, Nat.le_refl _, fun _ _ _ => rfl, fun _ => rfl⟩
theorem Un.trans {a b c : World} {L L' : Nat → Prop} (h : Un a b L) (k : Un b c L') (hs : ∀ x, L' x → L x ∨ a.heap.size ≤ x) : Un a c L :=
  ⟨k.os.trans h.os, k.tape.trans h.tape, k.output.trans h.output, Nat.le_trans h.size k.size, fun x hx hn =>
    (k.blk x (Nat.lt_of_lt_of_le hx h.size) (fun hl => (hs x hl).elim hn (fun h2 => by omega))).trans (h.blk x hx hn), fun a => (k.fz a).trans (h.fz a)⟩
theorem Un.alloc (w : World) (c : Array Value) (t : TypeId) (L : Nat → Prop) : Un w (w.alloc (.cells c t)) L :=
  ⟨rfl, rfl, rfl, by show _ ≤ (w.heap.push _).size; simp, fun b hb _ => RowKit.Below.heap_alloc w _ b hb, fun a => RowKit.frozen?_alloc_cells w c t a⟩
theorem frozen_setRow (w : World) (g : Nat) (cs : Array Value) (a : Addr) : (w.setRow g cs).frozen? a = w.frozen? a := by
  unfold World.frozen?
  by_cases h : a.block = g
  · subst h
    simp only [World.setRow, Array.getElem?_modify, if_true]
    cases w.heap[a.block]? with
    | none => rfl
    | some o => cases o <;> rfl
  · simp only [World.setRow, Array.getElem?_modify]
    rw [if_neg (Ne.symm h)]
theorem Un.setRow (w : World) (g : Nat) (cs : Array Value) (L : Nat → Prop) (hg : L g) : Un w (w.setRow g cs) L :=
  ⟨rfl, rfl, rfl, by simp, fun b _ hn => setRow_other w g b cs (fun e => hn (e ▸ hg)), frozen_setRow w g cs⟩
theorem Un.drew (w : World) (L : Nat → Prop) : Un w { w with drawn := w.drawn + 1 } L := ⟨rfl, rfl, rfl, Nat.le_refl _, fun _ _ _ => rfl, fun _ => rfl⟩
theorem Un.mono {w w' : World} {L L' : Nat → Prop} (h : Un w w' L) (hs : ∀ x, L x → L' x) : Un w w' L' := ⟨h.os, h.tape, h.output, h.size, fun b hb hn => h.blk b hb (fun hl => hn (hs b hl)), h.fz⟩

/-- A slot of a frame. -/
def SlotR (M : SM) (C : Cx) (β : Nat → Nat) (t : Nat) (v : AVal) (V : Value) : Prop :=
  match v with
  | .undef => True
  | .pptr d c => V = .pointer (some ⟨β d, c, none⟩)
  | .pbox _ => V = .pointer (some ⟨β t, 0, none⟩)
  | v => VR M C v V

/-- A frame and a heap, in a function that began at the world w0 with what C0 says, and may write the blocks L. bx: the slots of struct variables. -/
structure St (M : SM) (bx : List Nat) (N : Nat) (C0 : Cx) (w0 : World) (L : Nat → Prop) (C : Cx) (β : Nat → Nat) (fr : Fr) (G : AG) (a : Act) (w : World) : Prop where
  le : C0.le C
  un : Un w0 w L
  gr : GR M C G w
  mine : ∀ b, live C G b → L b ∨ w0.heap.size ≤ b
  size : a.tmps.size = N
  defers : a.defers = []
  slot : ∀ t, SlotR M C β t (fr t) (a.tmps.getD t undef)
  box : ∀ t cs, fr t = .pbox cs → t ∈ bx ∧ w0.heap.size ≤ β t ∧ (∃ cur ty, w.heap[β t]? = some (.cells cur ty (0, 0)) ∧ cur.size = cs.length ∧ CsR M C cs cur 0) ∧ ¬ live C G (β t) ∧ C.im (β t) = none
  apart : ∀ t t' cs cs', fr t = .pbox cs → fr t' = .pbox cs' → t ≠ t' → β t ≠ β t'
  pp : ∀ t d c, fr t = .pptr d c → d ∈ bx ∧ fr d ≠ .undef
  ims : ∀ b arr, C.im b = some arr → C0.im b = some arr ∨ L b ∨ w0.heap.size ≤ b
end Go.Ai
