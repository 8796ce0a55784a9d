/- How a value, a heap and a frame of the abstract machine stand in the world of the model. Operations that answer a value and leave the world alone. Operations that answer a value and leave the world alone: what each comes to. Operations that answer a value and leave the world alone: each one's run. Operations that answer a value and leave the world alone: the theorem. -/
import Derived.Test.YtffliemhdjcflaaB1
import Derived.WalkKit
import Derived.Maps.AppendAt
import Derived.Laws.CopyRow
set_option linter.unusedVariables false
namespace Go.Ai

/-- Where an object lies: its block, the cells of an element, how many elements there is room for. -/
structure OI where
  blk : Nat
  esz : Nat
  cap : Nat
structure Cx where
  n : Nat
  io : Nat → OI
  im : Nat → Option (Array Value)
/-- P: the program; fm: its functions by our numbers; tl: the types that stand behind interfaces, by our numbers; nm: names of methods by our numbers. -/
structure SM where
  P : Program
  fm : Nat → Option FuncId
  tl : List TypeId
  nm : Nat → Option String
def SM.tm (M : SM) (n : Nat) : Option TypeId := M.tl[n]?
/-- A pointer type's method, with a pointer receiver. -/
def PtrMeth (P : Program) (t : TypeId) (nm : String) (k : FuncId) : Prop := ∃ i m e, P.info? t = some i ∧ i.methods.find? (·.name == nm) = some m ∧ m.path = #[] ∧ m.func = some (k, true) ∧ P.underlying t = some (.pointer e)

/-- What a read only row leads to: element i, cell c. -/
def Cx.at (C : Cx) (b p : Nat) : Option Value := (C.im b).bind fun arr => arr[p]?

inductive VR (M : SM) (C : Cx) : AVal → Value → Prop
  | int (k n) : VR M C (.int k n) (.int k n)
  | bool (b) : VR M C (.bool b) (.bool b)
  | str (s) : VR M C (.str s) (.string s)
  | nilp : VR M C .nilp (.pointer none)
  | ptr (id i c) (h : id < C.n) : VR M C (.ptr id i c) (.pointer (some ⟨(C.io id).blk, i * (C.io id).esz + c, none⟩))
  | nils (a) : VR M C .nils (.slice a 0 0)
  | slice (id off len cap a) (h : id < C.n) (hl : len ≤ cap) (ha : (a = ⟨(C.io id).blk, off * (C.io id).esz, none⟩ ∧ off + cap = (C.io id).cap) ∨ cap = 0) :
      VR M C (.slice id off len) (.slice (some a) len cap)
  | list (es) (z b o cap : Nat) (A : Option Addr) (hz0 : 0 < z) (hl : es.length ≤ cap) (hA : es ≠ [] → A = some ⟨b, o, none⟩) (hz : ∀ e ∈ es, e.length = z)
      (hex : ∀ i e c, es[i]? = some e → c < z → ∃ y, C.at b (o + (i * z + c)) = some y ∧ y.oneCell' = true)
      (hv : ∀ i e c x y, es[i]? = some e → e[c]? = some x → C.at b (o + (i * z + c)) = some y → VR M C x y) : VR M C (.list es) (.slice A es.length cap)
  | iptr (es) (i c) (z b o : Nat) (hz0 : 0 < z) (hz : ∀ e ∈ es, e.length = z)
      (hex : ∀ i e c, es[i]? = some e → c < z → ∃ y, C.at b (o + (i * z + c)) = some y ∧ y.oneCell' = true)
      (hv : ∀ i e c x y, es[i]? = some e → e[c]? = some x → C.at b (o + (i * z + c)) = some y → VR M C x y) : VR M C (.iptr es i c) (.pointer (some ⟨b, o + (i * z + c), none⟩))
  | func (f k) (caps : List AVal) (args : Array Value) (hf : M.fm f = some k) (hl : caps.length = args.size) (h : ∀ (i : Nat) x y, caps[i]? = some x → args[i]? = some y → VR M C x y) :
      VR M C (.func f caps) (.func (.func k) #[] args)
  | nilf : VR M C .nilf .nilFunc
  | iface (tag t v V) (ht : M.tm tag = some t) (h : VR M C v V) : VR M C (.iface tag v) (.iface t V)
  | nili : VR M C .nili .nilIface
  | agg (cs : List AVal) (arr : Array Value) (hl : cs.length = arr.size) (h1 : ∀ y ∈ arr, y.oneCell' = true) (h : ∀ (i : Nat) x y, cs[i]? = some x → arr[i]? = some y → VR M C x y) :
      VR M C (.agg cs) (.agg arr)
  | tuple (cs : List AVal) (arr : Array Value) (hl : cs.length = arr.size) (h : ∀ (i : Nat) x y, cs[i]? = some x → arr[i]? = some y → VR M C x y) : VR M C (.tuple cs) (.tuple arr)
  | meth (nm t V k) (h : PtrMeth M.P t nm k) : VR M C .meth (.func (.method nm) #[.iface t V] #[])
  | anyb (b) : VR M C .anyb (.bool b)

/-- More is known. -/
structure Cx.le (C C' : Cx) : Prop where
  n : C.n ≤ C'.n
  io : ∀ id, id < C.n → C'.io id = C.io id
  im : ∀ b arr, C.im b = some arr → C'.im b = some arr
theorem Cx.le.refl (C : Cx) : C.le C := ⟨Nat.le_refl _, fun _ _ => rfl, fun _ _ h => h⟩
theorem Cx.le.trans {A B C : Cx} (h : A.le B) (k : B.le C) : A.le C :=
  ⟨Nat.le_trans h.n k.n, fun id hid => (k.io id (Nat.lt_of_lt_of_le hid h.n)).trans (h.io id hid), fun b arr hb => k.im b arr (h.im b arr hb)⟩
theorem Cx.le.at {C C' : Cx} (h : C.le C') {b p : Nat} {y : Value} (ha : C.at b p = some y) : C'.at b p = some y := by
  unfold Cx.at at *
  simp only [Option.bind_eq_some_iff] at *
  obtain ⟨arr, h1, h2⟩ := ha
  exact ⟨arr, h.im _ _ h1, h2⟩
variable {M : SM}
theorem VR.mono {C C' : Cx} (hle : C.le C') {v : AVal} {V : Value} (h : VR M C v V) : VR M C' v V := by
  induction h with
  | int k n => exact .int k n
  | bool b => exact .bool b
  | str s => exact .str s
  | nilp => exact .nilp
  | ptr id i c h => rw [← hle.io id h]; exact .ptr id i c (Nat.lt_of_lt_of_le h hle.n)
  | nils a => exact .nils a
  | slice id off len cap a h hl ha => exact .slice id off len cap a (Nat.lt_of_lt_of_le h hle.n) hl (by rw [hle.io id h]; exact ha)
  | list es z b o cap A hz0 hl hA hz hex hv ih =>
    refine .list es z b o cap A hz0 hl hA hz (fun i e c he hc => ?_) (fun i e c x y he hx hy => ?_)
    · obtain ⟨y, h1, h2⟩ := hex i e c he hc
      exact ⟨y, hle.at h1, h2⟩
    · obtain ⟨y', h1, _⟩ := hex i e c he (by rw [← hz e (List.mem_of_getElem? he)]; exact (List.getElem?_eq_some_iff.1 hx).1)
      have h2 := hle.at h1
      rw [h2] at hy
      injection hy with hy
      subst hy
      exact ih i e c x y' he hx h1
  | iptr es i c z b o hz0 hz hex hv ih =>
    refine .iptr es i c z b o hz0 hz (fun i e c he hc => ?_) (fun i e c x y he hx hy => ?_)
    · obtain ⟨y, h1, h2⟩ := hex i e c he hc
      exact ⟨y, hle.at h1, h2⟩
    · obtain ⟨y', h1, _⟩ := hex i e c he (by rw [← hz e (List.mem_of_getElem? he)]; exact (List.getElem?_eq_some_iff.1 hx).1)
      have h2 := hle.at h1
      rw [h2] at hy
      injection hy with hy
      subst hy
      exact ih i e c x y' he hx h1
  | func f k caps args hf hl h ih => exact .func f k caps args hf hl ih
  | nilf => exact .nilf
  | iface tag t v V ht h ih => exact .iface tag t v V ht ih
  | nili => exact .nili
  | agg cs arr hl h1 h ih => exact .agg cs arr hl h1 ih
  | tuple cs arr hl h ih => exact .tuple cs arr hl ih
  | meth nm t V k h => exact .meth nm t V k h
  | anyb b => exact .anyb b

/-- A value of one cell. -/
structure CR (M : SM) (C : Cx) (x : AVal) (y : Value) : Prop where
  v : VR M C x y
  one : y.oneCell' = true
theorem CR.mono {C C' : Cx} (hle : C.le C') {x : AVal} {y : Value} (h : CR M C x y) : CR M C' x y := ⟨h.v.mono hle, h.one⟩
/-- Cells one behind the other, from place p on. -/
structure CsR (M : SM) (C : Cx) (cs : List AVal) (arr : Array Value) (p : Nat) : Prop where
  fit : p + cs.length ≤ arr.size
  at_ : ∀ c x y, cs[c]? = some x → arr[p + c]? = some y → CR M C x y
theorem CsR.mono {C C' : Cx} (hle : C.le C') {cs : List AVal} {arr : Array Value} {p : Nat} (h : CsR M C cs arr p) : CsR M C' cs arr p := ⟨h.fit, fun c x y h1 h2 => (h.at_ c x y h1 h2).mono hle⟩
theorem CsR.get {C : Cx} {cs : List AVal} {arr : Array Value} {p c : Nat} {x : AVal} (h : CsR M C cs arr p) (hx : cs[c]? = some x) : ∃ y, arr[p + c]? = some y ∧ CR M C x y := by
  have hc := (List.getElem?_eq_some_iff.1 hx).1
  have hlt : p + c < arr.size := by have := h.fit; omega
  exact ⟨arr[p + c], Array.getElem?_eq_getElem hlt, h.at_ c x _ hx (Array.getElem?_eq_getElem hlt)⟩

/-- An object in its block. -/
structure ObR (M : SM) (C : Cx) (o : OI) (es : Obj') (cur : Array Value) : Prop where
  pos : 0 < o.esz
  size : cur.size = o.cap * o.esz
  big : o.cap ≤ maxLen
  fit : es.length ≤ o.cap
  el : ∀ i e, es[i]? = some e → e.length = o.esz ∧ CsR M C e cur (i * o.esz)
theorem ObR.mono {C C' : Cx} (hle : C.le C') {o : OI} {es : Obj'} {cur : Array Value} (h : ObR M C o es cur) : ObR M C' o es cur :=
  ⟨h.pos, h.size, h.big, h.fit, fun i e he => ⟨(h.el i e he).1, (h.el i e he).2.mono hle⟩⟩

/-- The heap. -/
structure GR (M : SM) (C : Cx) (G : AG) (w : World) : Prop where
  n : C.n = G.next
  ob : ∀ id es, G.obj id = some es → id < G.next ∧ ∃ cur ty, w.heap[(C.io id).blk]? = some (.cells cur ty (0, 0)) ∧ ObR M C (C.io id) es cur
  inj : ∀ id id' es es', G.obj id = some es → G.obj id' = some es' → id ≠ id' → (C.io id).blk ≠ (C.io id').blk
  im : ∀ b arr, C.im b = some arr → (∃ ty fr, w.heap[b]? = some (.cells arr ty fr)) ∧ ∀ id es, G.obj id = some es → (C.io id).blk ≠ b
/-- The blocks of the heap's objects. -/
def live (C : Cx) (G : AG) (b : Nat) : Prop := ∃ id es, G.obj id = some es ∧ (C.io id).blk = b
theorem GR.lt {C : Cx} {G : AG} {w : World} (h : GR M C G w) {b : Nat} (hb : live C G b) : b < w.heap.size := by
  obtain ⟨id, es, h1, rfl⟩ := hb
  obtain ⟨_, cur, ty, h2, _⟩ := h.ob id es h1
  exact (Array.getElem?_eq_some_iff.1 h2).1
theorem GR.imlt {C : Cx} {G : AG} {w : World} (h : GR M C G w) {b : Nat} {arr : Array Value} (hb : C.im b = some arr) : b < w.heap.size := by
  obtain ⟨⟨ty, fr, h2⟩, _⟩ := h.im b arr hb
  exact (Array.getElem?_eq_some_iff.1 h2).1

/-- All but the blocks of L is as it was. -/
structure Un (w w' : World) (L : Nat → Prop) : Prop where
  os : w'.os = w.os
  tape : w'.tape = w.tape
  output : w'.output = w.output
  size : w.heap.size ≤ w'.heap.size
  blk : ∀ b, b < w.heap.size → ¬ L b → w'.heap[b]? = w.heap[b]?
  fz : ∀ a, w'.frozen? a = w.frozen? a
theorem Un.refl (w : World) (L : Nat → Prop) : Un w w L := ⟨rfl, rfl, rfl, Nat.le_refl _, fun _ _ _ => rfl, fun _ => rfl⟩
theorem Un.trans {a b c : World} {L L' : Nat → Prop} (h : Un a b L) (k : Un b c L') (hs : ∀ x, L' x → L x ∨ a.heap.size ≤ x) : Un a c L :=
  ⟨k.os.trans h.os, k.tape.trans h.tape, k.output.trans h.output, Nat.le_trans h.size k.size, fun x hx hn =>
    (k.blk x (Nat.lt_of_lt_of_le hx h.size) (fun hl => (hs x hl).elim hn (fun h2 => by omega))).trans (h.blk x hx hn), fun a => (k.fz a).trans (h.fz a)⟩
theorem Un.alloc (w : World) (c : Array Value) (t : TypeId) (L : Nat → Prop) : Un w (w.alloc (.cells c t)) L :=
  ⟨rfl, rfl, rfl, by show _ ≤ (w.heap.push _).size; simp, fun b hb _ => RowKit.Below.heap_alloc w _ b hb, fun a => RowKit.frozen?_alloc_cells w c t a⟩
theorem frozen_setRow (w : World) (g : Nat) (cs : Array Value) (a : Addr) : (w.setRow g cs).frozen? a = w.frozen? a := by
  unfold World.frozen?
  by_cases h : a.block = g
  · subst h
    simp only [World.setRow, Array.getElem?_modify, if_true]
    cases w.heap[a.block]? with
    | none => rfl
    | some o => cases o <;> rfl
  · simp only [World.setRow, Array.getElem?_modify]
    rw [if_neg (Ne.symm h)]
theorem Un.setRow (w : World) (g : Nat) (cs : Array Value) (L : Nat → Prop) (hg : L g) : Un w (w.setRow g cs) L :=
  ⟨rfl, rfl, rfl, by simp, fun b _ hn => setRow_other w g b cs (fun e => hn (e ▸ hg)), frozen_setRow w g cs⟩
theorem Un.drew (w : World) (L : Nat → Prop) : Un w { w with drawn := w.drawn + 1 } L := ⟨rfl, rfl, rfl, Nat.le_refl _, fun _ _ _ => rfl, fun _ => rfl⟩
theorem Un.mono {w w' : World} {L L' : Nat → Prop} (h : Un w w' L) (hs : ∀ x, L x → L' x) : Un w w' L' := ⟨h.os, h.tape, h.output, h.size, fun b hb hn => h.blk b hb (fun hl => hn (hs b hl)), h.fz⟩

/-- A slot of a frame. -/
def SlotR (M : SM) (C : Cx) (β : Nat → Nat) (t : Nat) (v : AVal) (V : Value) : Prop :=
  match v with
  | .undef => True
  | .pptr d c => V = .pointer (some ⟨β d, c, none⟩)
  | .pbox _ => V = .pointer (some ⟨β t, 0, none⟩)
  | v => VR M C v V

/-- A frame and a heap, in a function that began at the world w0 with what C0 says, and may write the blocks L. bx: the slots of struct variables. -/
structure St (M : SM) (bx : List Nat) (N : Nat) (C0 : Cx) (w0 : World) (L : Nat → Prop) (C : Cx) (β : Nat → Nat) (fr : Fr) (G : AG) (a : Act) (w : World) : Prop where
  le : C0.le C
  un : Un w0 w L
  gr : GR M C G w
  mine : ∀ b, live C G b → L b ∨ w0.heap.size ≤ b
  size : a.tmps.size = N
  defers : a.defers = []
  slot : ∀ t, SlotR M C β t (fr t) (a.tmps.getD t undef)
  box : ∀ t cs, fr t = .pbox cs → t ∈ bx ∧ w0.heap.size ≤ β t ∧ (∃ cur ty, w.heap[β t]? = some (.cells cur ty (0, 0)) ∧ cur.size = cs.length ∧ CsR M C cs cur 0) ∧ ¬ live C G (β t) ∧ C.im (β t) = none
  apart : ∀ t t' cs cs', fr t = .pbox cs → fr t' = .pbox cs' → t ≠ t' → β t ≠ β t'
  pp : ∀ t d c, fr t = .pptr d c → d ∈ bx ∧ fr d ≠ .undef
  ims : ∀ b arr, C.im b = some arr → C0.im b = some arr ∨ L b ∨ w0.heap.size ≤ b
end Go.Ai
set_option linter.unusedVariables false
set_option linter.unusedSimpArgs false
namespace Go.Ai
variable {M : SM}

/-- What an operand comes to. -/
def EvR (M : SM) (bx : List Nat) (C : Cx) (β : Nat → Nat) (fr : Fr) (v : AVal) (V : Value) : Prop :=
  match v with
  | .undef => True
  | .pptr d c => V = .pointer (some ⟨β d, c, none⟩) ∧ d ∈ bx ∧ fr d ≠ .undef
  | .pbox _ => False
  | v => VR M C v V
inductive OpR (M : SM) : Opd → Operand → Prop
  | t (n) : OpR M (.t n) (.tmp n)
  | c (v V) (h : ∀ C, VR M C v V) : OpR M (.c v) (.const V)
  | f (f k) (h : M.fm f = some k) : OpR M (.c (.func f [])) (.func k)

theorem evR_of_VR {bx : List Nat} {C : Cx} {β : Nat → Nat} {fr : Fr} {v : AVal} {V : Value} (h : VR M C v V) : EvR M bx C β fr v V := by
  cases h <;> first | exact .int .. | exact .bool .. | exact .str .. | exact .nilp | exact .ptr _ _ _ ‹_› | exact .nils _ | exact .nilf | exact .nili | skip
  · exact .slice _ _ _ _ _ ‹_› ‹_› ‹_›
  · exact .list _ _ _ _ _ _ ‹_› ‹_› ‹_› ‹_› ‹_› ‹_›
  · exact .iptr _ _ _ _ _ _ ‹_› ‹_› ‹_› ‹_›
  · exact .func _ _ _ _ ‹_› ‹_› ‹_›
  · exact .iface _ _ _ _ ‹_› ‹_›
  · exact .agg _ _ ‹_› ‹_› ‹_›
  · exact .tuple _ _ ‹_› ‹_›
  · exact .meth _ _ _ _ ‹_›
  · exact .anyb _
theorem gv_some {v u : AVal} (h : gv v = some u) : v = u ∧ (∀ d c, u ≠ .pptr d c) ∧ (∀ cs, u ≠ .pbox cs) ∧ u ≠ .undef := by
  cases v <;> simp only [gv] at h <;> first | (cases h; done) | (injection h with h; subst h; exact ⟨rfl, by simp, by simp, by simp⟩)
theorem VR_of_EvR {bx : List Nat} {C : Cx} {β : Nat → Nat} {fr : Fr} {v : AVal} {V : Value} (h : EvR M bx C β fr v V) (h1 : ∀ d c, v ≠ .pptr d c) (h2 : ∀ cs, v ≠ .pbox cs) (h3 : v ≠ .undef) : VR M C v V := by
  cases v <;> first | exact h | (exact absurd rfl (h1 _ _)) | exact absurd rfl (h2 _) | exact absurd rfl h3

theorem vr_ptr {C : Cx} {id i c : Nat} {V : Value} (h : VR M C (.ptr id i c) V) : id < C.n ∧ V = .pointer (some ⟨(C.io id).blk, i * (C.io id).esz + c, none⟩) := by cases h; exact ⟨‹_›, rfl⟩
theorem vr_slice {C : Cx} {id off len : Nat} {V : Value} (h : VR M C (.slice id off len) V) : ∃ cap A, V = .slice (some A) len cap ∧ id < C.n ∧ len ≤ cap ∧ ((A = ⟨(C.io id).blk, off * (C.io id).esz, none⟩ ∧ off + cap = (C.io id).cap) ∨ cap = 0) := by
  cases h; exact ⟨_, _, rfl, ‹_›, ‹_›, ‹_›⟩
theorem vr_nils {C : Cx} {V : Value} (h : VR M C .nils V) : ∃ A, V = .slice A 0 0 := by cases h; exact ⟨_, rfl⟩
/-- What a read only list's cells are. -/
structure LiR (M : SM) (C : Cx) (es : Obj') (z b o : Nat) : Prop where
  z0 : 0 < z
  hz : ∀ e ∈ es, e.length = z
  hex : ∀ i e c, es[i]? = some e → c < z → ∃ y, C.at b (o + (i * z + c)) = some y ∧ y.oneCell' = true
  hv : ∀ i e c x y, es[i]? = some e → e[c]? = some x → C.at b (o + (i * z + c)) = some y → VR M C x y
theorem vr_list {C : Cx} {es : Obj'} {V : Value} (h : VR M C (.list es) V) : ∃ z b o cap A, V = .slice A es.length cap ∧ es.length ≤ cap ∧ (es ≠ [] → A = some ⟨b, o, none⟩) ∧ LiR M C es z b o := by
  cases h; exact ⟨_, _, _, _, _, rfl, ‹_›, ‹_›, ‹_›, ‹_›, ‹_›, ‹_›⟩
theorem LiR.list {C : Cx} {es : Obj'} {z b o cap : Nat} {A : Option Addr} (h : LiR M C es z b o) (hl : es.length ≤ cap) (hA : es ≠ [] → A = some ⟨b, o, none⟩) : VR M C (.list es) (.slice A es.length cap) :=
  .list es z b o cap A h.z0 hl hA h.hz h.hex h.hv
theorem vr_iptr {C : Cx} {es : Obj'} {i c : Nat} {V : Value} (h : VR M C (.iptr es i c) V) : ∃ z b o, V = .pointer (some ⟨b, o + (i * z + c), none⟩) ∧ LiR M C es z b o := by
  cases h; exact ⟨_, _, _, rfl, ‹_›, ‹_›, ‹_›, ‹_›⟩
theorem LiR.iptr {C : Cx} {es : Obj'} {z b o : Nat} (h : LiR M C es z b o) (i c : Nat) : VR M C (.iptr es i c) (.pointer (some ⟨b, o + (i * z + c), none⟩)) := .iptr es i c z b o h.z0 h.hz h.hex h.hv
theorem vr_func {C : Cx} {f : Nat} {caps : List AVal} {V : Value} (h : VR M C (.func f caps) V) : ∃ k args, V = .func (.func k) #[] args ∧ M.fm f = some k ∧ caps.length = args.size ∧ ∀ (i : Nat) x y, caps[i]? = some x → args[i]? = some y → VR M C x y := by
  cases h; exact ⟨_, _, rfl, ‹_›, ‹_›, ‹_›⟩
theorem vr_nilf {C : Cx} {V : Value} (h : VR M C .nilf V) : V = .nilFunc := by cases h; rfl
theorem vr_iface {C : Cx} {tag : Nat} {v : AVal} {V : Value} (h : VR M C (.iface tag v) V) : ∃ t W, V = .iface t W ∧ M.tm tag = some t ∧ VR M C v W := by cases h; exact ⟨_, _, rfl, ‹_›, ‹_›⟩
theorem vr_tuple {C : Cx} {cs : List AVal} {V : Value} (h : VR M C (.tuple cs) V) : ∃ arr, V = .tuple arr ∧ cs.length = arr.size ∧ ∀ (i : Nat) x y, cs[i]? = some x → arr[i]? = some y → VR M C x y := by cases h; exact ⟨_, rfl, ‹_›, ‹_›⟩
theorem LiR.sub {C : Cx} {es : Obj'} {z b o : Nat} (h : LiR M C es z b o) (l n : Nat) : LiR M C ((es.drop l).take n) z b (o + l * z) := by
  have key : ∀ (i : Nat) (e : List AVal), ((es.drop l).take n)[i]? = some e → es[l + i]? = some e := by
    intro i e he
    simp only [List.getElem?_take] at he
    split at he
    · rwa [List.getElem?_drop] at he
    · cases he
  have ho : ∀ i c : Nat, o + l * z + (i * z + c) = o + ((l + i) * z + c) := by intro i c; rw [Nat.add_mul]; omega
  refine ⟨h.z0, fun e he => h.hz e (List.mem_of_mem_drop (List.mem_of_mem_take he)), fun i e c he hc => ?_, fun i e c x y he hx hy => ?_⟩
  · rw [ho]; exact h.hex _ e c (key i e he) hc
  · rw [ho] at hy; exact h.hv _ e c x y (key i e he) hx hy
section
variable {bx : List Nat} {N : Nat} {C0 : Cx} {w0 : World} {L : Nat → Prop} {C : Cx} {β : Nat → Nat} {fr : Fr} {G : AG} {a : Act} {w : World}
theorem St.ev (h : St M bx N C0 w0 L C β fr G a w) {x : Opd} {X : Operand} (hx : OpR M x X) : EvR M bx C β fr (x.ev fr) (a.eval X) := by
  cases hx with
  | t n =>
    have hs := h.slot n
    show EvR M bx C β fr (pv n (fr n)) (a.tmps.getD n undef)
    cases hv : fr n <;> rw [hv] at hs <;> simp only [pv] <;> try exact hs
    · exact ⟨hs, (h.pp n _ _ hv).1, (h.pp n _ _ hv).2⟩
    · rename_i cs
      exact ⟨hs, (h.box n cs hv).1, by rw [hv]; simp⟩
  | c v V hv => exact evR_of_VR (hv C)
  | f f k hf => exact .func f k [] #[] hf rfl (by simp)
theorem St.gev (h : St M bx N C0 w0 L C β fr G a w) {x : Opd} {X : Operand} (hx : OpR M x X) {v : AVal} (hv : x.gev fr = some v) : VR M C v (a.eval X) := by
  have h1 := h.ev hx
  obtain ⟨h2, h3, h4, h5⟩ := gv_some hv
  rw [h2] at h1
  exact VR_of_EvR h1 h3 h4 h5
/-- A value is put into a slot. -/
theorem St.put (h : St M bx N C0 w0 L C β fr G a w) {d : Option Nat} (hd : ∀ t, d = some t → t < N ∧ t ∉ bx) {v : AVal} {V : Value} (hv : EvR M bx C β fr v V) :
    St M bx N C0 w0 L C β (put fr d v) G (a.put d V) w := by
  cases d with
  | none => exact h
  | some d =>
    obtain ⟨hdN, hdb⟩ := hd d rfl
    have hnb : ∀ cs, v ≠ .pbox cs := by rintro cs rfl; exact hv
    have hfr : ∀ t, t ≠ d → (Ai.put fr (some d) v) t = fr t := fun t ht => by simp only [Ai.put, upd]; rw [if_neg ht]
    have hfd : (Ai.put fr (some d) v) d = v := by simp [Ai.put, upd]
    refine ⟨h.le, h.un, h.gr, h.mine, by simpa [Act.put] using h.size, h.defers, fun t => ?_, fun t cs ht => ?_, fun t t' cs cs' ht ht' hne => ?_, fun t e c ht => ?_, h.ims⟩
    · by_cases ht : t = d
      · subst ht
        rw [hfd]
        have hg : (a.put (some t) V).tmps.getD t undef = V := by simp [Act.put, Array.getElem?_setIfInBounds, h.size, hdN]
        rw [hg]
        cases v <;> first | trivial | exact hv.1 | exact hv | exact hv.elim
      · rw [hfr t ht]
        have hg : (a.put (some d) V).tmps.getD t undef = a.tmps.getD t undef := by simp [Act.put, Array.getElem?_setIfInBounds, Ne.symm ht]
        rw [hg]
        exact h.slot t
    · have hne : t ≠ d := by rintro rfl; rw [hfd] at ht; exact hnb cs ht
      rw [hfr t hne] at ht
      exact h.box t cs ht
    · have h1 : t ≠ d := by rintro rfl; rw [hfd] at ht; exact hnb cs ht
      have h2 : t' ≠ d := by rintro rfl; rw [hfd] at ht'; exact hnb cs' ht'
      rw [hfr t h1] at ht; rw [hfr t' h2] at ht'
      exact h.apart t t' cs cs' ht ht' hne
    · have key : e ∈ bx ∧ fr e ≠ .undef := by
        by_cases ht2 : t = d
        · subst ht2
          rw [hfd] at ht
          subst ht
          exact ⟨hv.2.1, hv.2.2⟩
        · rw [hfr t ht2] at ht
          exact h.pp t e c ht
      refine ⟨key.1, ?_⟩
      rw [hfr e (fun e' => hdb (e' ▸ key.1))]
      exact key.2
end

/-! ## runs of single operations -/
section
variable {P : Program} {w : World}
def aggD (d : TypeDesc) : Bool := match d with
  | .struct _ | .array _ _ => true
  | _ => false
theorem run_isAgg {t : TypeId} {d : TypeDesc} (h : P.underlying t = some d) (w : World) : (isAgg t).run P w = .ok (aggD d) w := by
  simp only [isAgg, Sem.run_bind, run_underlying h, Result.andThen_ok]
  cases d <;> rfl
theorem run_sizeOf {t : TypeId} {n : Nat} (h : (P.info? t).map (·.size) = some n) (w : World) : (sizeOf t).run P w = .ok n w := by
  obtain ⟨i, hi, rfl⟩ := Option.map_eq_some_iff.1 h
  simp [sizeOf, typeInfo, hi]
theorem cell_of {b p : Nat} {cur : Array Value} {ty : TypeId} {f : Nat × Nat} (h : w.heap[b]? = some (.cells cur ty f)) : w.cell? ⟨b, p, none⟩ = cur[p]? := by simp [World.cell?, h]
/-- How a load of a type reads: one cell, or n. -/
def LdT (P : Program) (k : Option Nat) (t : TypeId) : Prop :=
  match k with
  | none => ∃ d, P.underlying t = some d ∧ (aggD d) = false
  | some n => (∃ d, P.underlying t = some d ∧ (aggD d) = true) ∧ (P.info? t).map (·.size) = some n
theorem run_loadVar {k : Option Nat} {t : TypeId} (ht : LdT P k t) {C : Cx} {e : List AVal} {c : Nat} {v : AVal} (hv : ldv k e c = some v) {b p : Nat} {cur : Array Value} {ty : TypeId} {f : Nat × Nat}
    (hb : w.heap[b]? = some (.cells cur ty f)) (hc : CsR M C e cur p) : ∃ V, (loadVar t ⟨b, p + c, none⟩).run P w = .ok V w ∧ VR M C v V := by
  cases k with
  | none =>
    obtain ⟨d, hd, ha⟩ := ht
    obtain ⟨y, hy, hr⟩ := hc.get (show e[c]? = some v from hv)
    refine ⟨y, ?_, hr.v⟩
    simp only [loadVar, Sem.run_bind, run_isAgg hd, Result.andThen_ok, ha]
    simp [run_load, cell_of hb, hy]
  | some n =>
    obtain ⟨⟨d, hd, ha⟩, hs⟩ := ht
    simp only [ldv] at hv
    split at hv
    · rename_i hle
      injection hv with hv
      subst hv
      let ys : List Value := (cur.toList.drop (p + c)).take n
      have hlen : ys.length = n := by simp only [ys, List.length_take, List.length_drop, Array.length_toList]; have := hc.fit; omega
      have hys : ∀ j y, ys[j]? = some y → cur[p + c + j]? = some y := by
        intro j y hy
        simp only [ys, List.getElem?_take] at hy
        split at hy
        · rw [List.getElem?_drop] at hy
          rw [← Array.getElem?_toList]; exact hy
        · cases hy
      have hl : (loadCells ⟨b, p + c, none⟩ n).run P w = .ok ys.toArray w := by
        have := run_loadCells_list (P := P) w ⟨b, p + c, none⟩ ys (fun j y hy => by rw [Addr.add_lit, cell_of hb]; exact hys j y hy)
        rwa [hlen] at this
      have hcr : ∀ (j : Nat) x y, ((e.drop c).take n)[j]? = some x → ys[j]? = some y → CR M C x y := by
        intro j x y hx hy
        simp only [List.getElem?_take] at hx
        split at hx
        · rw [List.getElem?_drop] at hx
          exact hc.at_ (c + j) x y hx (by rw [← Nat.add_assoc]; exact hys j y hy)
        · cases hx
      refine ⟨.agg ys.toArray, ?_, .agg _ _ ?_ ?_ ?_⟩
      · simp only [loadVar, Sem.run_bind, run_isAgg hd, Result.andThen_ok, ha, if_true, run_sizeOf hs, hl, Sem.run_pure]
      · simp only [List.length_take, List.length_drop, List.size_toArray, hlen]; omega
      · intro y hy
        obtain ⟨j, hj, rfl⟩ := List.getElem_of_mem (show y ∈ ys by simpa using hy)
        have hj2 : j < ((e.drop c).take n).length := by simp only [List.length_take, List.length_drop]; omega
        exact (hcr j _ _ (List.getElem?_eq_getElem hj2) (List.getElem?_eq_getElem hj)).one
      · intro j x y hx hy
        exact (hcr j x y hx (by simpa using hy)).v
    · cases hv
end
end Go.Ai
set_option linter.unusedVariables false
set_option linter.unusedSimpArgs false
namespace Go.Ai
variable {M : SM}

theorem splice_length (vs : List AVal) : ∀ (xs : List AVal) (c : Nat), (splice xs c vs).length = xs.length := by
  induction vs with
  | nil =>
    intro xs
    induction xs with
    | nil => intro c; cases c <;> simp [splice]
    | cons x xs ih => intro c; cases c with
      | zero => simp [splice]
      | succ c => simp [splice, ih c]
  | cons v vs ihv =>
    intro xs
    induction xs with
    | nil => intro c; cases c <;> simp [splice]
    | cons x xs ih => intro c; cases c with
      | zero => simp [splice, ihv]
      | succ c => simp [splice, ih c]
theorem splice_at (vs : List AVal) : ∀ (xs : List AVal) (c i : Nat), i < xs.length → (splice xs c vs)[i]? = if c ≤ i ∧ i < c + vs.length then vs[i - c]? else xs[i]? := by
  induction vs with
  | nil =>
    intro xs
    induction xs with
    | nil => intro c i h; simp at h
    | cons x xs ih =>
      intro c i h
      cases c with
      | zero => simp [splice]
      | succ c =>
        cases i with
        | zero => simp [splice]
        | succ i =>
          have := ih c i (by simpa using h)
          simp only [splice, List.getElem?_cons_succ, this, List.length_nil, Nat.add_zero]
          rw [if_neg (by omega), if_neg (by omega)]
  | cons v vs ihv =>
    intro xs
    induction xs with
    | nil => intro c i h; simp at h
    | cons x xs ih =>
      intro c i h
      cases c with
      | zero =>
        cases i with
        | zero => simp [splice]
        | succ i =>
          have := ihv xs 0 i (by simpa using h)
          simp only [splice, List.getElem?_cons_succ, this, List.length_cons, Nat.zero_add]
          by_cases hi : i < vs.length
          · rw [if_pos (by omega), if_pos (by omega)]; simp
          · rw [if_neg (by omega), if_neg (by omega)]
      | succ c =>
        cases i with
        | zero =>
          simp only [splice, List.getElem?_cons_zero]
          rw [if_neg (by omega)]
        | succ i =>
          have := ih c i (by simpa using h)
          simp only [splice, List.getElem?_cons_succ, this, List.length_cons]
          by_cases hi : c ≤ i ∧ i < c + (vs.length + 1)
          · rw [if_pos hi, if_pos (by omega)]
            congr 1; omega
          · rw [if_neg hi, if_neg (by omega)]
theorem foldl_set (off : Nat) : ∀ (vs : List Value) (k : Nat) (cells : Array Value), ((vs.zipIdx k).foldl (fun cs x => cs.setIfInBounds (off + x.2) x.1) cells).size = cells.size ∧
    ∀ i, ((vs.zipIdx k).foldl (fun cs x => cs.setIfInBounds (off + x.2) x.1) cells)[i]? = if off + k ≤ i ∧ i < off + k + vs.length ∧ i < cells.size then vs[i - (off + k)]? else cells[i]? := by
  intro vs
  induction vs with
  | nil => intro k cells; simp; intro i h1 h2 h3; omega
  | cons v vs ih =>
    intro k cells
    obtain ⟨h1, h2⟩ := ih (k + 1) (cells.setIfInBounds (off + k) v)
    simp only [List.zipIdx_cons, List.foldl_cons]
    refine ⟨by rw [h1]; simp, fun i => ?_⟩
    rw [h2 i]
    simp only [Array.size_setIfInBounds, List.length_cons]
    by_cases hi : i = off + k
    · subst hi
      rw [if_neg (by omega)]
      by_cases hs : off + k < cells.size
      · rw [if_pos (by omega)]
        simp [Array.getElem?_setIfInBounds, hs]
      · rw [if_neg (by omega)]
        simp [Array.getElem?_setIfInBounds, hs]
    · by_cases hc : off + (k + 1) ≤ i ∧ i < off + (k + 1) + vs.length ∧ i < cells.size
      · rw [if_pos hc, if_pos (by omega)]
        have : i - (off + k) = (i - (off + (k + 1))) + 1 := by omega
        rw [this, List.getElem?_cons_succ]
      · rw [if_neg hc, if_neg (by omega)]
        simp [Array.getElem?_setIfInBounds, Ne.symm hi]

/-- Cells of a value. -/
theorem cellsR {C : Cx} {v : AVal} {V : Value} {cs : List AVal} (h : VR M C v V) (hc : cellsOf v = some cs) : CsR M C cs V.cells 0 ∧ cs.length = V.cells.size := by
  have one : ∀ (x : AVal) (X : Value), VR M C x X → X.oneCell' = true → X.cells = #[X] → cellsOf x = some [x] → cs = [x] → CsR M C cs X.cells 0 ∧ cs.length = X.cells.size := by
    rintro x X hx h1 h2 h3 rfl
    rw [h2]
    refine ⟨⟨by simp, fun c x' y h4 h5 => ?_⟩, by simp⟩
    have hc0 : c = 0 := by have := (List.getElem?_eq_some_iff.1 h4).1; simpa using this
    subst hc0
    simp at h4 h5
    subst h4 h5
    exact ⟨hx, h1⟩
  cases h <;> simp only [cellsOf] at hc <;> first | (cases hc; done) | skip
  case agg cs' arr hl h1 h =>
    injection hc with hc
    subst hc
    refine ⟨⟨by simp [Value.cells, hl], fun c x y h4 h5 => ⟨h c x y h4 (by simpa [Value.cells] using h5), h1 y ?_⟩⟩, hl⟩
    simp only [Value.cells, Nat.zero_add] at h5
    exact Array.mem_of_getElem? h5
  all_goals
    injection hc with hc
    refine one _ _ ?_ rfl rfl rfl hc.symm
  case int => exact .int ..
  case bool => exact .bool ..
  case str => exact .str ..
  case nilp => exact .nilp
  case ptr => exact .ptr _ _ _ ‹_›
  case nils => exact .nils _
  case meth => exact .meth _ _ _ _ ‹_›
  case anyb => exact .anyb _
  case slice => exact .slice _ _ _ _ _ ‹_› ‹_› ‹_›
  case list => exact .list _ _ _ _ _ _ ‹_› ‹_› ‹_› ‹_› ‹_› ‹_›
  case iptr => exact .iptr _ _ _ _ _ _ ‹_› ‹_› ‹_› ‹_›
  case func => exact .func _ _ _ _ ‹_› ‹_› ‹_›
  case nilf => exact .nilf
  case iface => exact .iface _ _ _ _ ‹_› ‹_›
  case nili => exact .nili

/-- An aggregate's cells. -/
structure ArR (M : SM) (C : Cx) (cs : List AVal) (arr : Array Value) : Prop where
  len : cs.length = arr.size
  at_ : ∀ (i : Nat) x y, cs[i]? = some x → arr[i]? = some y → CR M C x y
theorem ArR.vr {C : Cx} {cs : List AVal} {arr : Array Value} (h : ArR M C cs arr) : VR M C (.agg cs) (.agg arr) := by
  refine .agg cs arr h.len (fun y hy => ?_) fun i x y hx hy => (h.at_ i x y hx hy).v
  obtain ⟨i, hi, rfl⟩ := Array.getElem_of_mem hy
  have hi2 : i < cs.length := by rw [h.len]; exact hi
  exact (h.at_ i _ _ (List.getElem?_eq_getElem hi2) (Array.getElem?_eq_getElem hi)).one
theorem ArR.of_vr {C : Cx} {cs : List AVal} {V : Value} (h : VR M C (.agg cs) V) : ∃ arr, V = .agg arr ∧ ArR M C cs arr := by
  cases h with
  | agg cs arr hl h1 h => exact ⟨arr, rfl, hl, fun i x y hx hy => ⟨h i x y hx hy, h1 y (Array.mem_of_getElem? hy)⟩⟩
theorem ArR.splice {C : Cx} {cs vs : List AVal} {arr : Array Value} {V : Value} {off : Nat} (h : ArR M C cs arr) (hv : CsR M C vs V.cells 0) (hl : vs.length = V.cells.size) (hf : off + vs.length ≤ cs.length) :
    ArR M C (splice cs off vs) (V.cells.zipIdx.foldl (fun cs (c, j) => cs.setIfInBounds (off + j) c) arr) := by
  have hfold := foldl_set off V.cells.toList 0 arr
  have heq : V.cells.zipIdx.foldl (fun cs (c, j) => cs.setIfInBounds (off + j) c) arr = (V.cells.toList.zipIdx 0).foldl (fun cs x => cs.setIfInBounds (off + x.2) x.1) arr := by
    rw [← Array.foldl_toList, Array.toList_zipIdx]
  rw [heq]
  refine ⟨by rw [splice_length, hfold.1]; exact h.len, fun i x y hx hy => ?_⟩
  rw [hfold.2 i] at hy
  have hi : i < cs.length := by have := (List.getElem?_eq_some_iff.1 hx).1; rwa [splice_length] at this
  rw [splice_at vs cs off i hi] at hx
  simp only [Array.length_toList, Nat.add_zero] at hy
  by_cases hc : off ≤ i ∧ i < off + vs.length
  · rw [if_pos hc] at hx
    rw [if_pos ⟨hc.1, by rw [← hl]; exact hc.2, by rw [← h.len]; exact hi⟩] at hy
    refine hv.at_ (i - off) x y hx ?_
    rw [Nat.zero_add]; rwa [Array.getElem?_toList] at hy
  · rw [if_neg hc] at hx
    rw [if_neg (fun hh => hc ⟨hh.1, by rw [hl]; exact hh.2.1⟩)] at hy
    exact h.at_ i x y hx hy
end Go.Ai
set_option linter.unusedVariables false
set_option linter.unusedSimpArgs false
namespace Go.Ai
variable {M : SM}

inductive PartM (M : SM) (fields : Array Field) : (Nat × Nat × Opd) → (Nat × Operand) → Prop
  | mk (o n x i X f) (hx : OpR M x X) (hf : fields[i]? = some f) (ho : f.offset = o) (hs : (M.P.info? f.type).map (·.size) = some n) : PartM M fields (o, n, x) (i, X)
/-- A struct of whole numbers (true) and truth values (false) alone, its fields one cell each. -/
def FlatF (P : Program) : List Field → Nat → List Bool → Prop
  | [], _, [] => True
  | f :: fs, o, b :: bs => f.name ≠ "_" ∧ f.offset = o ∧ (if b = true then ∃ k, P.underlying f.type = some (.int k) else P.underlying f.type = some .bool) ∧ FlatF P fs (o + 1) bs
  | _, _, _ => False
inductive EqM (P : Program) (t : TypeId) : EqK → Prop
  | b (h : P.underlying t = some .bool) : EqM P t .b
  | f (ps rs v) (h : P.underlying t = some (.func ps rs v)) : EqM P t .f
  | st (ks) (h : P.underlying t = some (.struct (P.fieldsOf t))) (h1 : P.stoodInHeld t = false) (h2 : P.eqGuardType P.depth t = false) (h3 : FlatF P (P.fieldsOf t).toList 0 ks) : EqM P t (.st ks)
inductive OptR (M : SM) : Option Opd → Option Operand → Prop
  | none : OptR M none none
  | some (x X) (h : OpR M x X) : OptR M (some x) (some X)

/-- An operation of the lowered program and one of the program. -/
inductive OpP (M : SM) : AOp → Op → Prop
  | mv (x X) (h : OpR M x X) : OpP M (.mv x) (.move X)
  | as (x X) (h : OpR M x X) : OpP M (.mv x) (.assign X)
  | pick (c a b C A B) (hc : OpR M c C) (ha : OpR M a A) (hb : OpR M b B) : OpP M (.pick c a b) (.pick C A B)
  | build (z ps t parts fields zv) (hz : (M.P.info? t).bind (·.zero) = some (.agg zv)) (hzr : ∀ C, ArR M C z zv) (ht : M.P.underlying t = some (.struct fields))
      (hi : ∀ f ∈ fields, ∃ n, (M.P.info? f.type).map (·.size) = some n) (hfit : ∀ p ∈ ps, p.1 + p.2.1 ≤ z.length) (hl : ps.length = parts.size) (hp : ∀ (k : Nat) p q, ps[k]? = some p → parts[k]? = some q → PartM M fields p q) : OpP M (.build z ps) (.build t parts)
  | load (k x t X) (h : OpR M x X) (ht : LdT M.P k t) : OpP M (.load k x) (.load t X)
  | nilck (x X) (h : OpR M x X) : OpP M (.nilck x) (.nilCheck X)
  | bin (op x y t X Y t') (hx : OpR M x X) (hy : OpR M y Y) : OpP M (.bin op x y) (.binOp op t X Y t')
  | eq (k x y t X Y t') (hx : OpR M x X) (hy : OpR M y Y) (ht : EqM M.P t k) : OpP M (.eqk k false x y) (.binOp .eql t X Y t')
  | ne (k x y t X Y t') (hx : OpR M x X) (hy : OpR M y Y) (ht : EqM M.P t k) : OpP M (.eqk k true x y) (.binOp .neq t X Y t')
  | nt (x t X) (h : OpR M x X) : OpP M (.nt x) (.unOp .not t X)
  | neg (x t X) (h : OpR M x X) : OpP M (.neg x) (.unOp .neg t X)
  | fld (off x s X i fields f) (h : OpR M x X) (hs : M.P.underlying s = some (.struct fields)) (hf : fields[i]? = some f) (ho : f.offset = off) (hn : ∃ n, (M.P.info? f.type).map (·.size) = some n ∧ n ≠ 0) : OpP M (.fld off x) (.fieldAddr s X i)
  | idx (z x i t X I e) (hx : OpR M x X) (hi : OpR M i I) (ht : M.P.underlying t = some (.slice e)) (hz : (M.P.info? e).map (·.size) = some z) : OpP M (.idx z x i) (.indexAddr t X I)
  | ext (x i X) (h : OpR M x X) : OpP M (.ext x i) (.extract X i)
  | fieldv (off k x s X i fields f) (h : OpR M x X) (hs : M.P.underlying s = some (.struct fields)) (hf : fields[i]? = some f) (ho : f.offset = off) (hl : LdT M.P k f.type) : OpP M (.fieldv off k x) (.field s X i)
  | len (x X t as) (h : OpR M x X) (ht : ∃ e, M.P.underlying t = some (.slice e)) (hc : as = { callee := .builtin .len, args := #[X], argTypes := #[t] }) : OpP M (.len x) (.call as)
  | mkf (f k caps Caps) (hf : M.fm f = some k) (hl : caps.length = Caps.size) (h : ∀ (i : Nat) x X, caps[i]? = some x → Caps[i]? = some X → OpR M x X) : OpP M (.mkf f caps) (.makeFunc (.func k) #[] Caps)
  | mki (tag t x X) (h : OpR M x X) (ht : M.tm tag = some t) (hc : M.P.concrete t = true) : OpP M (.mki tag x) (.makeInterface t X)
  | sl (z x lo hi t X Lo Hi e) (hx : OpR M x X) (hlo : OptR M lo Lo) (hhi : OptR M hi Hi) (ht : M.P.underlying t = some (.slice e)) (hz : (M.P.info? e).map (·.size) = some z) : OpP M (.sl z x lo hi) (.slice t X Lo Hi none)
  | sl0 (x t X n n' e) (hx : OpR M x X) (ht : M.P.underlying t = some (.slice e)) (hz : ∃ z, (M.P.info? e).map (·.size) = some z) : OpP M (.sl0 x) (.slice t X none (some (.const (.int n 0))) (some (.const (.int n' 0))))
  | isnil (x t X n c t' e) (hx : OpR M x X) (ht : M.P.underlying t = some (.slice e)) : OpP M (.isnil false x) (.binOp .eql t X (.const (.slice none n c)) t')
  | mkm (x X nm) (hx : OpR M x X) (ht : ∀ t ∈ M.tl, ∃ k, PtrMeth M.P t nm k) : OpP M (.mkm x) (.makeFunc (.method nm) #[X] #[])
  | conv (k x s d X) (h : OpR M x X) (hs : ∃ k', M.P.underlying s = some (.int k')) (hd : M.P.underlying d = some (.int k)) : OpP M (.conv k x) (.convert s d X)
  | mxn (x y X Y ts) (hx : OpR M x X) (hy : OpR M y Y) : OpP M (.mxn true [x, y]) (.call { callee := .builtin .max, args := #[X, Y], argTypes := ts })
  | mnn (x y X Y ts) (hx : OpR M x X) (hy : OpR M y Y) : OpP M (.mxn false [x, y]) (.call { callee := .builtin .min, args := #[X, Y], argTypes := ts })

section
variable {bx : List Nat} {N : Nat} {C0 : Cx} {w0 : World} {L : Nat → Prop} {C : Cx} {β : Nat → Nat} {fr : Fr} {G : AG} {a : Act} {w : World}

theorem gevs_get : ∀ (xs : List Opd) (vs : List AVal), gevs fr xs = some vs → vs.length = xs.length ∧ ∀ (i : Nat) x, xs[i]? = some x → ∃ v, vs[i]? = some v ∧ x.gev fr = some v := by
  intro xs
  induction xs with
  | nil => intro vs h; injection h with h; subst h; exact ⟨rfl, by simp⟩
  | cons x xs ih =>
    intro vs h
    simp only [gevs, Option.bind_eq_some_iff] at h
    obtain ⟨v, hv, vs', hvs, h⟩ := h
    injection h with h
    subst h
    obtain ⟨h1, h2⟩ := ih vs' hvs
    refine ⟨by simp [h1], fun i y hy => ?_⟩
    cases i with
    | zero => simp at hy; subst hy; exact ⟨v, rfl, hv⟩
    | succ i => exact h2 i y hy
theorem St.gevs (h : St M bx N C0 w0 L C β fr G a w) {xs : List Opd} {Xs : Array Operand} {vs : List AVal} (hv : gevs fr xs = some vs) (hl : xs.length = Xs.size) (hx : ∀ (i : Nat) x X, xs[i]? = some x → Xs[i]? = some X → OpR M x X) :
    vs.length = (Xs.map a.eval).size ∧ ∀ (i : Nat) v V, vs[i]? = some v → (Xs.map a.eval)[i]? = some V → VR M C v V := by
  obtain ⟨h1, h2⟩ := gevs_get xs vs hv
  refine ⟨by simp [h1, hl], fun i v V hi hI => ?_⟩
  have hlt : i < xs.length := by rw [← h1]; exact (List.getElem?_eq_some_iff.1 hi).1
  obtain ⟨v', h3, h4⟩ := h2 i _ (List.getElem?_eq_getElem hlt)
  rw [hi] at h3; injection h3 with h3; subst h3
  simp only [Array.getElem?_map, Option.map_eq_some_iff] at hI
  obtain ⟨X, hX, rfl⟩ := hI
  exact h.gev (hx i _ X (List.getElem?_eq_getElem hlt) hX) h4
theorem St.gcells (h : St M bx N C0 w0 L C β fr G a w) {x : Opd} {X : Operand} (hx : OpR M x X) {cs : List AVal} (hv : gcells fr x = some cs) : CsR M C cs (a.eval X).cells 0 ∧ cs.length = (a.eval X).cells.size := by
  simp only [Ai.gcells, Option.bind_eq_some_iff] at hv
  obtain ⟨v, hv, hc⟩ := hv
  exact cellsR (h.gev hx hv) hc

theorem flat_eq {P : Program} : ∀ (ks : List Bool) (fs : List Field) (o d : Nat) (xs ys : List AVal) (X Y : Array Value), FlatF P fs o ks → (∀ (i : Nat) x y, xs[i]? = some x → X[o + i]? = some y → VR M C x y) → (∀ (i : Nat) x y, ys[i]? = some x → Y[o + i]? = some y → VR M C x y) →
    o + xs.length = X.size → o + ys.length = Y.size → ∀ r, eqks ks xs ys = some r → ∀ w, (Op.eqFields (d + 1) X Y fs).run P w = .ok r w := by
  intro ks
  induction ks with
  | nil =>
    intro fs o d xs ys X Y hf h1 h2 hx hy r hr w
    cases fs with
    | nil =>
      cases xs <;> cases ys <;> simp only [eqks] at hr <;> first | (cases hr; done) | (injection hr with hr; subst hr; rfl)
    | cons f fs => exact hf.elim
  | cons b ks ih =>
    intro fs o d xs ys X Y hf h1 h2 hx hy r hr w
    cases fs with
    | nil => exact hf.elim
    | cons f fs =>
      obtain ⟨hn, ho, ht, hf⟩ := hf
      have key : ∀ (x y : AVal) (xs' ys' : List AVal) (r1 r2 : Bool) (U V : Value), xs = x :: xs' → ys = y :: ys' → X[o]? = some U → Y[o]? = some V → (∀ w : World, (Op.equalIn (d + 1) f.type U V).run P w = .ok r1 w) → aggD ((P.underlying f.type).getD .invalid) = false → (∃ d, P.underlying f.type = some d) →
          eqks ks xs' ys' = some r2 → r = (r1 && r2) → (Op.eqFields (d + 1) X Y (f :: fs)).run P w = .ok r w := by
        intro x y xs' ys' r1 r2 U V hxs hys hU hV he hg hu hr2 hrr
        obtain ⟨dd, hu⟩ := hu
        have hag : ∀ w, (isAgg f.type).run P w = .ok false w := fun w => by rw [run_isAgg hu]; rw [hu] at hg; simpa using hg
        have hp : ∀ (Z : Array Value) (U : Value) (w : World), Z[o]? = some U → (part f.type Z f.offset).run P w = .ok U w := fun Z U w hZ => by
          simp [part, hag, ho, hZ]
        have hrest := ih fs (o + 1) d xs' ys' X Y hf (fun i x y hx' hy' => h1 (i + 1) x y (by rw [hxs]; simpa using hx') (by rw [show o + (i + 1) = o + 1 + i by omega]; exact hy'))
          (fun i x y hx' hy' => h2 (i + 1) x y (by rw [hys]; simpa using hx') (by rw [show o + (i + 1) = o + 1 + i by omega]; exact hy')) (by rw [hxs] at hx; simp at hx; omega) (by rw [hys] at hy; simp at hy; omega) r2 hr2 w
        simp only [Op.eqFields]
        rw [if_pos hn]
        simp only [Sem.run_bind, hp X U w hU, hp Y V w hV, he, Result.andThen_ok, Sem.run_ite, Sem.run_pure]
        cases r1
        · simp [hrr]
        · simp [hrest, hrr]
      cases b with
      | true =>
        cases xs with
        | nil => simp [eqks] at hr
        | cons x xs =>
          cases ys with
          | nil => cases x <;> simp [eqks] at hr
          | cons y ys =>
            cases x <;> cases y <;> simp only [eqks] at hr <;> try (cases hr; done)
            rename_i k m k' m'
            split at hr
            · rename_i hk
              subst hk
              obtain ⟨r2, hr2, rfl⟩ := Option.map_eq_some_iff.1 hr
              obtain ⟨kk, hu⟩ := (by simpa using ht : ∃ k, P.underlying f.type = some (.int k))
              have hX : o < X.size := by simp at hx; omega
              have hY : o < Y.size := by simp at hy; omega
              have hU := h1 0 (.int k m) X[o] rfl (by simp [Array.getElem?_eq_getElem hX])
              have hV := h2 0 (.int k m') Y[o] rfl (by simp [Array.getElem?_eq_getElem hY])
              refine key (.int k m) (.int k m') xs ys (decide (m = m')) r2 (.int k m) (.int k m') rfl rfl ?_ ?_ ?_ (by rw [hu]; rfl) ⟨_, hu⟩ hr2 rfl
              · rw [Array.getElem?_eq_getElem hX]; cases hUU : X[o] <;> rw [hUU] at hU <;> cases hU; rfl
              · rw [Array.getElem?_eq_getElem hY]; cases hVV : Y[o] <;> rw [hVV] at hV <;> cases hV; rfl
              · intro w; rw [run_equalIn_int w d f.type k kk m m' hu]; rfl
            · cases hr
      | false =>
        cases xs with
        | nil => simp [eqks] at hr
        | cons x xs =>
          cases ys with
          | nil => cases x <;> simp [eqks] at hr
          | cons y ys =>
            cases x <;> cases y <;> simp only [eqks] at hr <;> try (cases hr; done)
            rename_i m m'
            obtain ⟨r2, hr2, rfl⟩ := Option.map_eq_some_iff.1 hr
            have hu : P.underlying f.type = some .bool := by simpa using ht
            have hX : o < X.size := by simp at hx; omega
            have hY : o < Y.size := by simp at hy; omega
            have hU := h1 0 (.bool m) X[o] rfl (by simp [Array.getElem?_eq_getElem hX])
            have hV := h2 0 (.bool m') Y[o] rfl (by simp [Array.getElem?_eq_getElem hY])
            refine key (.bool m) (.bool m') xs ys (m == m') r2 (.bool m) (.bool m') rfl rfl ?_ ?_ ?_ (by rw [hu]; rfl) ⟨_, hu⟩ hr2 rfl
            · rw [Array.getElem?_eq_getElem hX]; cases hUU : X[o] <;> rw [hUU] at hU <;> cases hU; rfl
            · rw [Array.getElem?_eq_getElem hY]; cases hVV : Y[o] <;> rw [hVV] at hV <;> cases hV; rfl
            · intro w; exact run_equalIn_bool' w d f.type m m' hu
end
end Go.Ai
set_option linter.unusedVariables false
set_option linter.unusedSimpArgs false
namespace Go.Ai
variable {M : SM}
section
variable {bx : List Nat} {N : Nat} {C0 : Cx} {w0 : World} {L : Nat → Prop} {C : Cx} {β : Nat → Nat} {fr : Fr} {G G' : AG} {a : Act} {w : World}
variable {call : CallF} {mt : Nat → Nat → Option Nat} {o : Oper} {v : AVal}

/-- What is read at an address. -/
theorem run_load_any (h : St M bx N C0 w0 L C β fr G a w) {k : Option Nat} {t : TypeId} (ht : LdT M.P k t) {x : Opd} {X : Operand} (hx : OpR M x X)
    (he : evOp call mt fr G (.load k x) = some (v, G')) : ∃ V, (Instr.loadAt t (a.eval X)).run M.P w = .ok V w ∧ VR M C v V ∧ G' = G := by
  have hX := h.ev hx
  simp only [evOp] at he
  generalize x.ev fr = u at hX he
  cases u <;> simp only at he <;> try (cases he; done)
  case ptr id i c =>
    simp only [Option.bind_eq_some_iff] at he
    obtain ⟨es, h1, e, h2, v', h3, h4⟩ := he
    injection h4 with h4; injection h4 with h4 h5
    subst h4 h5
    obtain ⟨hlt, cur, ty, hb, ho⟩ := h.gr.ob id es h1
    have hcs := ho.el i e h2
    have hXv : VR M C (.ptr id i c) (a.eval X) := hX
    cases hA : a.eval X <;> rw [hA] at hXv <;> cases hXv
    obtain ⟨V, hr, hv⟩ := run_loadVar (P := M.P) ht h3 hb hcs.2
    exact ⟨V, by simp [Instr.loadAt, Instr.sureAddr, hr], hv, rfl⟩
  case pptr d c =>
    split at he
    · rename_i cs hd
      simp only [Option.bind_eq_some_iff] at he
      obtain ⟨v', h3, h4⟩ := he
      injection h4 with h4; injection h4 with h4 h5
      subst h4 h5
      obtain ⟨_, _, ⟨cur, ty, hb, _, hcs⟩, _⟩ := h.box d cs hd
      obtain ⟨V, hr, hv⟩ := run_loadVar (P := M.P) ht h3 hb hcs
      refine ⟨V, ?_, hv, rfl⟩
      rw [hX.1]
      simp only [Nat.zero_add] at hr
      simp [Instr.loadAt, Instr.sureAddr, hr]
    · cases he
  case iptr es i c =>
    simp only [Option.bind_eq_some_iff] at he
    obtain ⟨e, h2, v', h3, h4⟩ := he
    injection h4 with h4; injection h4 with h4 h5
    subst h4 h5
    have hXv : VR M C (.iptr es i c) (a.eval X) := hX
    cases hA : a.eval X <;> rw [hA] at hXv <;> cases hXv
    rename_i z b p hz0 hz hex hv
    have hel : e.length = z := hz e (List.mem_of_getElem? h2)
    obtain ⟨y, hy, _⟩ := hex i e 0 h2 hz0
    simp only [Cx.at, Option.bind_eq_some_iff] at hy
    obtain ⟨arr, harr, _⟩ := hy
    obtain ⟨⟨ty, f, hb⟩, _⟩ := h.gr.im b arr harr
    have hcs : CsR M C e arr (p + i * z) := by
      refine ⟨?_, fun c x y hx hy => ?_⟩
      · obtain ⟨y, hy, _⟩ := hex i e (e.length - 1) h2 (by omega)
        simp only [Cx.at, harr, Option.bind_some] at hy
        have := (Array.getElem?_eq_some_iff.1 hy).1
        omega
      · have hc : c < z := by rw [← hel]; exact (List.getElem?_eq_some_iff.1 hx).1
        obtain ⟨y', hy', h1⟩ := hex i e c h2 hc
        have hy2 : C.at b (p + (i * z + c)) = some y := by simp only [Cx.at, harr, Option.bind_some]; rw [← Nat.add_assoc]; exact hy
        rw [hy2] at hy'; injection hy' with hy'; subst hy'
        exact ⟨hv i e c x y h2 hx hy2, h1⟩
    obtain ⟨V, hr, hv'⟩ := run_loadVar (P := M.P) ht h3 hb hcs
    refine ⟨V, ?_, hv', rfl⟩
    simp only [Nat.add_assoc] at hr
    simp [Instr.loadAt, Instr.sureAddr, hr]
end
end Go.Ai
