/- Calls: what a callee may rely on, what it leaves. Every operation of the lowered program: what the program's own does. An operation ahead of others: what it may be swapped with. An operation that is ready goes ahead of those that stand before it in the text. -/
import Derived.Test.YtffliemhdjcflaaC3
import Derived.Test.YtffliemhdjcflaaB1
set_option linter.unusedVariables false
set_option linter.unusedSimpArgs false
namespace Go.Ai
variable {M : SM}

/-- What a call leaves. -/
structure Ret (M : SM) (C C' : Cx) (G G' : AG) (w w' : World) : Prop where
  le : C.le C'
  gr : GR M C' G' w'
  un : Un w w' (live C G)
  lv : ∀ b, live C' G' b → live C G b ∨ w.heap.size ≤ b
  im : ∀ b arr, C'.im b = some arr → C.im b = some arr ∨ live C G b ∨ w.heap.size ≤ b
def VsR (M : SM) (C : Cx) (as : List AVal) (args : Array Value) : Prop := as.length = args.size ∧ ∀ (i : Nat) x y, as[i]? = some x → args[i]? = some y → VR M C x y
def Does (M : SM) (C : Cx) (G : AG) (w : World) (k : FuncId) (args : Array Value) (v : AVal) (G' : AG) : Prop :=
  Calls M.P k args w (fun e w' => match e with | .returned V => ∃ C', Ret M C C' G G' w w' ∧ VR M C' v V | _ => False)
def CallOK (M : SM) (call : CallF) : Prop := ∀ f k as G v G', M.fm f = some k → call f as G = some (v, G') → ∀ C w args, GR M C G w → VsR M C as args → Does M C G w k args v G'

theorem VsR.append {C : Cx} {as bs : List AVal} {X Y : Array Value} (h : VsR M C as X) (k : VsR M C bs Y) : VsR M C (as ++ bs) (X ++ Y) := by
  refine ⟨by simp [h.1, k.1], fun i x y hx hy => ?_⟩
  by_cases hi : i < as.length
  · rw [List.getElem?_append_left hi] at hx
    rw [Array.getElem?_append_left (by rw [← h.1]; exact hi)] at hy
    exact h.2 i x y hx hy
  · rw [List.getElem?_append_right (by omega)] at hx
    rw [Array.getElem?_append_right (by rw [← h.1]; omega), ← h.1] at hy
    exact k.2 _ x y hx hy

theorem noob {o : Option Obj'} {es : Obj'} (h : o = some es) (h0 : o = none := by rfl) : False := by rw [h0] at h; cases h
theorem GR.none {C : Cx} {G : AG} {w : World} (h : GR M C G w) : GR M C ⟨G.next, noObj⟩ w :=
  ⟨h.n, fun _ _ hh => (noob hh).elim, fun _ _ _ _ hh => (noob hh).elim, fun b arr hb => ⟨(h.im b arr hb).1, fun _ _ hh => (noob hh).elim⟩⟩
theorem live_none {C : Cx} {n b : Nat} (h : live C ⟨n, noObj⟩ b) : False := by obtain ⟨_, _, h1, _⟩ := h; cases h1
theorem frz_gr {C : Cx} {G : AG} {w : World} (h : GR M C G w) : GR M (frzC C G w) ⟨G.next, noObj⟩ w := by
  refine ⟨h.n, fun _ _ hh => (noob hh).elim, fun _ _ _ _ hh => (noob hh).elim, fun b arr hb => ⟨?_, fun _ _ hh => (noob hh).elim⟩⟩
  simp only [frzC] at hb
  split at hb
  · rename_i hl
    obtain ⟨id, es, hid, rfl⟩ := hl
    obtain ⟨_, cur, ty, hc, _⟩ := h.ob id es hid
    rw [hc] at hb
    injection hb with hb
    subst hb
    exact ⟨ty, _, hc⟩
  · exact (h.im b arr hb).1
theorem ovr_noObj (g : Heap') : ovr g noObj = g := by funext i; simp [ovr, noObj]

/-- A heap of its own, and what was there. -/
theorem ret_join {C C1 : Cx} {G : AG} {w w1 : World} {im2 : Nat → Option (Array Value)} {n1 : Nat} {H : Heap'} (hg : GR M C G w) (hn : C.n ≤ C1.n) (hio : ∀ id, id < C.n → C1.io id = C.io id)
    (hun : Un w w1 (fun _ => False)) (h1 : GR M ⟨C1.n, C1.io, im2⟩ ⟨n1, H⟩ w1) (hlv : ∀ id es, H id = some es → w.heap.size ≤ (C1.io id).blk)
    (him : ∀ b arr, im2 b = some arr → C.im b = some arr ∨ w.heap.size ≤ b) (hsub : ∀ b arr, C.im b = some arr → im2 b = some arr) : Ret M C ⟨C1.n, C1.io, im2⟩ G ⟨n1, ovr G.obj H⟩ w w1 := by
  have hle : C.le ⟨C1.n, C1.io, im2⟩ := ⟨hn, hio, hsub⟩
  have hcase : ∀ id es, ovr G.obj H id = some es → H id = some es ∨ G.obj id = some es := by
    intro id es hid
    simp only [ovr] at hid
    cases hH : H id with
    | some e => rw [hH] at hid; left; exact hid
    | none => rw [hH] at hid; right; exact hid
  have hold : ∀ id es, G.obj id = some es → C1.io id = C.io id ∧ (C.io id).blk < w.heap.size := fun id es hid =>
    ⟨hio id (by rw [hg.n]; exact (hg.ob id es hid).1), hg.lt ⟨id, es, hid, rfl⟩⟩
  refine ⟨hle, ⟨h1.n, fun id es hid => ?_, fun id id' es es' ha hb hne => ?_, fun b arr hb => ?_⟩, hun.mono (fun _ hf => hf.elim), fun b hb => ?_, fun b arr hb => ?_⟩
  · rcases hcase id es hid with h2 | h2
    · exact h1.ob id es h2
    · obtain ⟨h3, h4⟩ := hold id es h2
      obtain ⟨h5, cur, ty, h6, h7⟩ := hg.ob id es h2
      refine ⟨?_, cur, ty, ?_, ?_⟩
      · show id < n1
        have := h1.n
        have h8 : C1.n = n1 := this
        rw [← h8]
        rw [← hg.n] at h5
        omega
      · show w1.heap[(C1.io id).blk]? = _
        rw [h3, hun.blk _ h4 (fun hf => hf)]; exact h6
      · show ObR M _ (C1.io id) es cur
        rw [h3]; exact h7.mono hle
  · show (C1.io id).blk ≠ (C1.io id').blk
    rcases hcase id es ha with h2 | h2 <;> rcases hcase id' es' hb with h3 | h3
    · exact h1.inj id id' es es' h2 h3 hne
    · have := hlv id es h2
      obtain ⟨h4, h5⟩ := hold id' es' h3
      rw [h4]; omega
    · have := hlv id' es' h3
      obtain ⟨h4, h5⟩ := hold id es h2
      rw [h4]; omega
    · rw [(hold id es h2).1, (hold id' es' h3).1]; exact hg.inj id id' es es' h2 h3 hne
  · have hb' : im2 b = some arr := hb
    refine ⟨(h1.im b arr hb).1, fun id es hid => ?_⟩
    show (C1.io id).blk ≠ b
    rcases hcase id es hid with h2 | h2
    · exact (h1.im b arr hb).2 id es h2
    · obtain ⟨h3, h4⟩ := hold id es h2
      rw [h3]
      rcases him b arr hb' with h5 | h5
      · exact (hg.im b arr h5).2 id es h2
      · omega
  · obtain ⟨id, es, hid, e⟩ := hb
    have e' : (C1.io id).blk = b := e
    rcases hcase id es hid with h2 | h2
    · right; rw [← e']; exact hlv id es h2
    · left; exact ⟨id, es, h2, by rw [← (hold id es h2).1]; exact e'⟩
  · rcases him b arr hb with h2 | h2
    · exact .inl h2
    · exact .inr (.inr h2)

theorem callBy_ok {call : CallF} (hc : CallOK M call) {m : CM} {f : Nat} {k : FuncId} {as : List AVal} {G G' : AG} {v : AVal} (hk : M.fm f = some k) (h : callBy call m f as G = some (v, G')) {C : Cx} {w : World} {args : Array Value}
    (hg : GR M C G w) (ha : VsR M C as args) : Does M C G w k args v G' := by
  cases m with
  | whole => exact hc f k as G v G' hk h C w args hg ha
  | alone snap fz =>
    simp only [callBy, Option.bind_eq_some_iff] at h
    obtain ⟨as', has, r, hr, h⟩ := h
    split at h
    rotate_left
    · cases h
    rename_i hnext
    have hga : GR M C ⟨G.next, if snap then G.obj else noObj⟩ w := by
      cases snap
      · exact hg.none
      · exact hg
    generalize hGa : (⟨G.next, if snap then G.obj else noObj⟩ : AG) = Ga at hga
    have hobj : (if snap then G.obj else noObj) = Ga.obj := by rw [← hGa]
    have hnx : Ga.next = G.next := by rw [← hGa]
    rw [hobj] at has
    have hcf : VsR M (frzC C Ga w) as' args := by
      obtain ⟨h1, h2⟩ := omap_get has
      refine ⟨by rw [h1]; exact ha.1, fun i x y hx hy => ?_⟩
      obtain ⟨x0, h3, h4⟩ := omap_back has hx
      exact frz_sound hga 8 x0 x y h4 (ha.2 i x0 y h3 hy)
    have hgf : GR M (frzC C Ga w) ⟨G.next, noObj⟩ w := by rw [← hnx]; exact frz_gr hga
    have hlf := frzC_le hga
    have hsnap : snap = false → ∀ b arr, (frzC C Ga w).im b = some arr → C.im b = some arr := by
      intro hs b arr hb
      subst hs
      simp only [frzC] at hb
      rw [if_neg] at hb
      exact hb
      rw [← hGa]
      exact fun hl => live_none hl
    obtain ⟨v1, G1⟩ := r
    refine Calls.mono (hc f k as' ⟨G.next, noObj⟩ v1 G1 hk hr (frzC C Ga w) w args hgf hcf) (fun e w1 he => ?_)
    cases e with
    | panicked _ => exact he.elim
    | outgrown => exact he.elim
    | returned V =>
      obtain ⟨C1, hret, hv⟩ := he
      have hn : C.n ≤ C1.n := Nat.le_trans hlf.n hret.le.n
      have hio : ∀ id, id < C.n → C1.io id = C.io id := fun id hid => hret.le.io id hid
      have hun : Un w w1 (fun _ => False) := hret.un.mono (fun b hb => live_none hb)
      have hlv : ∀ id es, G1.obj id = some es → w.heap.size ≤ (C1.io id).blk := fun id es hid => (hret.lv _ ⟨id, es, hid, rfl⟩).elim (fun hl => (live_none hl).elim) (fun h2 => h2)
      have him1 : ∀ b arr, C1.im b = some arr → (frzC C Ga w).im b = some arr ∨ w.heap.size ≤ b := fun b arr hb => (hret.im b arr hb).elim .inl (fun h2 => h2.elim (fun hl => (live_none hl).elim) .inr)
      have hsub1 : ∀ b arr, C.im b = some arr → C1.im b = some arr := fun b arr hb => hret.le.im b arr (hlf.im b arr hb)
      have hC1 : (⟨C1.n, C1.io, C1.im⟩ : Cx) = C1 := rfl
      have hold : ∀ b arr, C.im b = some arr → ∀ id es, G1.obj id = some es → (C1.io id).blk ≠ b := by
        intro b arr hb id es hid e
        have h2 := hlv id es hid
        have h3 := hg.imlt hb
        omega
      have himw : ∀ b arr, C.im b = some arr → ∃ ty fr, w1.heap[b]? = some (.cells arr ty fr) := by
        intro b arr hb
        obtain ⟨⟨ty, f, h2⟩, _⟩ := hg.im b arr hb
        exact ⟨ty, f, by rw [hun.blk b (hg.imlt hb) (fun hf => hf)]; exact h2⟩
      cases fz with
      | true =>
        simp only [if_true, Option.bind_eq_some_iff] at h
        obtain ⟨v2, hv2, h⟩ := h
        split at h
        rotate_left
        · cases h
        rename_i hcond
        injection h with h
        injection h with e1 e2
        subst e1 e2
        have hvf := frz_sound hret.gr 8 v1 v2 V hv2 hv
        rcases hcond with hs | hno
        · have hj := ret_join (im2 := (frzC C1 G1 w1).im) (n1 := G1.next) (H := noObj) hg hn hio hun (frz_gr hret.gr) (fun _ _ hh => (noob hh).elim) (fun b arr hb => ?_) (fun b arr hb => (frzC_le hret.gr).im b arr (hsub1 b arr hb))
          · rw [ovr_noObj] at hj
            exact ⟨_, hj, hvf⟩
          · simp only [frzC] at hb
            split at hb
            · rename_i hl
              right
              obtain ⟨id, es, hid, rfl⟩ := hl
              exact hlv id es hid
            · rcases him1 b arr hb with h2 | h2
              · exact .inl (hsnap hs b arr h2)
              · exact .inr h2
        · have hgr : GR M ⟨C1.n, C1.io, C.im⟩ ⟨G1.next, noObj⟩ w1 :=
            ⟨hret.gr.n, fun _ _ hh => (noob hh).elim, fun _ _ _ _ hh => (noob hh).elim, fun b arr hb => ⟨himw b arr hb, fun _ _ hh => (noob hh).elim⟩⟩
          have hj := ret_join (im2 := C.im) (n1 := G1.next) (H := noObj) hg hn hio hun hgr (fun _ _ hh => (noob hh).elim) (fun b arr hb => .inl hb) (fun b arr hb => hb)
          rw [ovr_noObj] at hj
          exact ⟨_, hj, hvf.noIm hno⟩
      | false =>
        simp only [Bool.false_eq_true, if_false] at h
        split at h
        rotate_left
        · cases h
        rename_i hcond
        injection h with h
        injection h with e1 e2
        subst e1 e2
        rcases hcond with hs | ⟨hno, hnoO⟩
        · exact ⟨_, ret_join (im2 := C1.im) (n1 := G1.next) (H := G1.obj) hg hn hio hun hret.gr hlv (fun b arr hb => (him1 b arr hb).elim (fun h2 => .inl (hsnap hs b arr h2)) .inr) hsub1, hv⟩
        · have hgr : GR M ⟨C1.n, C1.io, C.im⟩ ⟨G1.next, G1.obj⟩ w1 := by
            refine ⟨hret.gr.n, fun id es hid => ?_, hret.gr.inj, fun b arr hb => ⟨himw b arr hb, hold b arr hb⟩⟩
            obtain ⟨h2, cur, ty, h3, h4⟩ := hret.gr.ob id es hid
            refine ⟨h2, cur, ty, h3, h4.pos, h4.size, h4.big, h4.fit, fun i e he => ⟨(h4.el i e he).1, ((h4.el i e he).2).fit, fun c x y hx hy => ?_⟩⟩
            have h5 := ((h4.el i e he).2).at_ c x y hx hy
            exact ⟨h5.v.noIm (hnoO id es hid e (List.mem_of_getElem? he) x (List.mem_of_getElem? hx)), h5.one⟩
          exact ⟨_, ret_join (im2 := C.im) (n1 := G1.next) (H := G1.obj) hg hn hio hun hgr hlv (fun b arr hb => .inl hb) (fun b arr hb => hb), hv.noIm hno⟩
end Go.Ai
set_option linter.unusedVariables false
set_option linter.unusedSimpArgs false
namespace Go.Ai
variable {M : SM}

def DstOk (bx : List Nat) (N : Nat) (dst : Option Tmp) : Prop := ∀ t, dst = some t → t < N ∧ t ∉ bx
def BoxOk (bx : List Nat) (N : Nat) (dst : Option Tmp) : Prop := ∀ t, dst = some t → t < N ∧ t ∈ bx
structure ZeroR (M : SM) (z : List AVal) (t : TypeId) (zv : Value) : Prop where
  hz : (M.P.info? t).bind (·.zero) = some zv
  hr : ∀ C, CsR M C z zv.cells 0 ∧ z.length = zv.cells.size
def OpsR (M : SM) (xs : List Opd) (Xs : Array Operand) : Prop := xs.length = Xs.size ∧ ∀ (i : Nat) x X, xs[i]? = some x → Xs[i]? = some X → OpR M x X
/-- An operation of the lowered program and one of the program, with where their value goes. -/
inductive OpA (M : SM) (bx : List Nat) (N : Nat) (dst : Option Tmp) : AOp → Op → Prop
  | p (o op) (h : OpP M o op) (hd : DstOk bx N dst) : OpA M bx N dst o op
  | boxP (x t X) (hx : OpR M x X) (hd : BoxOk bx N dst) : OpA M bx N dst (.boxP x) (.box t X)
  | allocP (z t zv) (hz : ZeroR M z t zv) (hd : BoxOk bx N dst) : OpA M bx N dst (.allocP z) (.alloc t)
  | boxH (x t X) (hx : OpR M x X) (hd : DstOk bx N dst) : OpA M bx N dst (.boxH x) (.box t X)
  | allocH (z t zv) (hz : ZeroR M z t zv) (hne : z ≠ []) (hd : DstOk bx N dst) : OpA M bx N dst (.allocH z) (.alloc t)
  | store (n x v t X V) (hx : OpR M x X) (hv : OpR M v V) (hs : (M.P.info? t).map (·.size) = some n) (hd : dst = none) : OpA M bx N dst (.store n x v) (.store t X V)
  | app (z bytes x y t e X Y zv) (hx : OpR M x X) (hy : OpR M y Y) (he : ElT M.P t e z bytes zv) (hd : DstOk bx N dst) : OpA M bx N dst (.app z bytes x y) (.call { callee := .builtin .append, args := #[X, Y], argTypes := #[t, t] })
  | litI (z t e len ps parts zv) (hl : LitT M t e z len ps parts zv) (hd : DstOk bx N dst) : OpA M bx N dst (.litI z ps) (.buildSlice t len parts)
  | litO (z t e len ps parts zv) (hl : LitT M t e z len ps parts zv) (hd : DstOk bx N dst) : OpA M bx N dst (.litO z ps) (.buildSlice t len parts)
  | mks (z bytes n t e X Y zv) (hx : OpR M n X) (hy : OpR M n Y) (he : ElT M.P t e z.length bytes zv) (hr : ∀ C, CsR M C z zv.cells 0) (hd : DstOk bx N dst) : OpA M bx N dst (.mks z bytes n) (.makeSlice t X Y)
  | cpy (z x y t t' e X Y) (hx : OpR M x X) (hy : OpR M y Y) (ht : M.P.underlying t = some (.slice e)) (hz : (M.P.info? e).map (·.size) = some z) (hz0 : 0 < z) (hd : DstOk bx N dst) : OpA M bx N dst (.cpy z x y) (.call { callee := .builtin .copy, args := #[X, Y], argTypes := #[t, t'] })
  | call (m f k as As ts) (hk : M.fm f = some k) (ha : OpsR M as As) (hd : DstOk bx N dst) : OpA M bx N dst (.call m f as) (.call { callee := .value (.func k), args := As, argTypes := ts })
  | callv (m x as X As ts) (hx : OpR M x X) (ha : OpsR M as As) (hd : DstOk bx N dst) : OpA M bx N dst (.callv m x as) (.call { callee := .value X, args := As, argTypes := ts })
  | inv (x name nm as X As ts) (hx : OpR M x X) (hn : M.nm name = some nm) (ha : OpsR M as As) (hd : DstOk bx N dst) : OpA M bx N dst (.inv x name as) (.call { callee := .invoke X nm, args := As, argTypes := ts })
/-- The methods behind interfaces. -/
def MtOK (M : SM) (mt : Nat → Nat → Option Nat) : Prop := ∀ tag name f t nm, mt tag name = some f → M.tm tag = some t → M.nm name = some nm → ∃ k, M.fm f = some k ∧ PtrMeth M.P t nm k
/-- Functions that are entered by a call. -/
def FnsOk (M : SM) : Prop := ∀ f k, M.fm f = some k → ∃ fn, M.P.funcs[k]? = some fn ∧ fn.name ≠ "runtime.NumGoroutine" ∧ fn.body.isNone = false

section
variable {bx : List Nat} {N : Nat} {C0 : Cx} {w0 : World} {L : Nat → Prop} {C C' : Cx} {β : Nat → Nat} {fr fr' : Fr} {G G' : AG} {a : Act} {w w' : World}
variable {call : CallF} {mt : Nat → Nat → Option Nat} {dst : Option Tmp} {ty : TypeId} {pos : String} {after : Array Edge} {guard : Option (Nat × Bool)} {j : Nat}

/-- What an operation comes to, a call among them. -/
def Goes2 (M : SM) (bx : List Nat) (N : Nat) (C0 : Cx) (w0 : World) (L : Nat → Prop) (fr' : Fr) (G' : AG) (a : Act) (w : World) (o : Oper) : Prop :=
  ∀ (next : Act → World → Prop) (Q : Exit → Act → World → Prop), (∀ C' β' w' V, St M bx N C0 w0 L C' β' fr' G' (a.put o.dst V) w' → next (a.put o.dst V) w') → o.wp M.P a w next Q
theorem Goes.two {o : Oper} (h : Goes M bx N C0 w0 L fr' G' a w o.dst ((execOp a.eval o).run M.P w)) : Goes2 M bx N C0 w0 L fr' G' a w o := by
  intro next Q hn
  obtain ⟨C', β', w', V, hst, hr⟩ := h
  unfold Oper.wp
  rcases hr with hr | ⟨hr, rfl⟩ <;> rw [hr]
  · exact hn C' β' w' V hst
  · exact hn C' β' w' _ hst
theorem p_two (h : St M bx N C0 w0 L C β fr G a w) {o : AOp} {op : Op} (hd : DstOk bx N dst) (hr : ∀ v G', evOp call mt fr G o = some (v, G') → ∃ V, (execOp a.eval ⟨dst, op, ty, pos, after, guard⟩).run M.P w = .ok (.value V) w ∧ EvR M bx C β fr v V ∧ G' = G)
    (he : ((evOp call mt fr G o).bind fun r => some (put fr dst r.1, r.2)) = some (fr', G')) : Goes2 M bx N C0 w0 L fr' G' a w ⟨dst, op, ty, pos, after, guard⟩ := by
  simp only [Option.bind_eq_some_iff] at he
  obtain ⟨⟨v, G1⟩, hr1, he⟩ := he
  injection he with he; injection he with h1 h2
  subst h1 h2
  obtain ⟨V, h1, h2, h3⟩ := hr v G1 hr1
  have h3' : G1 = G := h3
  subst h3'
  exact Goes.two ⟨C, β, w, V, h.put hd h2, .inl h1⟩
theorem opP_two (h : St M bx N C0 w0 L C β fr G a w) {o : AOp} {op : Op} (hp : OpP M o op) (hd : DstOk bx N dst)
    (he : evD call mt ⟨j, dst, none, o⟩ fr G = some (fr', G')) : Goes2 M bx N C0 w0 L fr' G' a w ⟨dst, op, ty, pos, after, guard⟩ := by
  cases hp with
  | mv x X hx => exact p_two (call := call) (mt := mt) h hd (fun v G' he => p_mv h hx he) he
  | as x X hx => exact p_two (call := call) (mt := mt) h hd (fun v G' he => p_as h hx he) he
  | pick c a b C A B hc ha hb => exact p_two (call := call) (mt := mt) h hd (fun v G' he => p_pick h hc ha hb he) he
  | build z ps t parts fields zv hz hzr ht hi hfit hl hp => exact p_two (call := call) (mt := mt) h hd (fun v G' he => p_build h hz hzr ht hi hfit hl hp he) he
  | load k x t X hx ht => exact p_two (call := call) (mt := mt) h hd (fun v G' he => p_load h hx ht he) he
  | nilck x X hx => exact p_two (call := call) (mt := mt) h hd (fun v G' he => p_nilck h hx he) he
  | bin op x y t X Y t' hx hy => exact p_two (call := call) (mt := mt) h hd (fun v G' he => p_bin h hx hy he) he
  | eq k x y t X Y t' hx hy ht => exact p_two (call := call) (mt := mt) h hd (fun v G' he => p_eq h hx hy ht he) he
  | ne k x y t X Y t' hx hy ht => exact p_two (call := call) (mt := mt) h hd (fun v G' he => p_ne h hx hy ht he) he
  | nt x t X hx => exact p_two (call := call) (mt := mt) h hd (fun v G' he => p_nt h hx he) he
  | neg x t X hx => exact p_two (call := call) (mt := mt) h hd (fun v G' he => p_neg h hx he) he
  | fld off x s X i fields f hx hs hf ho hn => exact p_two (call := call) (mt := mt) h hd (fun v G' he => p_fld h hx hs hf ho hn he) he
  | idx z x i t X I e hx hi ht hz => exact p_two (call := call) (mt := mt) h hd (fun v G' he => p_idx h hx hi ht hz he) he
  | ext x i X hx => exact p_two (call := call) (mt := mt) h hd (fun v G' he => p_ext h hx he) he
  | fieldv off k x s X i fields f hx hs hf ho hl => exact p_two (call := call) (mt := mt) h hd (fun v G' he => p_fieldv h hx hs hf ho hl he) he
  | len x X t as hx ht hc => subst hc; exact p_two (call := call) (mt := mt) h hd (fun v G' he => p_len h hx ht he) he
  | mkf f k caps Caps hf hl hc => exact p_two (call := call) (mt := mt) h hd (fun v G' he => p_mkf h hf hl hc he) he
  | mki tag t x X hx ht hc => exact p_two (call := call) (mt := mt) h hd (fun v G' he => p_mki h hx ht hc he) he
  | sl z x lo hi t X Lo Hi e hx hlo hhi ht hz => exact p_two (call := call) (mt := mt) h hd (fun v G' he => p_sl h hx hlo hhi ht hz he) he
  | sl0 x t X n n' e hx ht hz => exact p_two (call := call) (mt := mt) h hd (fun v G' he => p_sl0 h hx ht hz he) he
  | isnil x t X n c t' e hx ht => exact p_two (call := call) (mt := mt) h hd (fun v G' he => p_isnil h hx ht he) he
  | mkm x X nm hx ht => exact p_two (call := call) (mt := mt) h hd (fun v G' he => p_mkm h hx ht he) he
  | conv k x s d X hx hs hd' => exact p_two (call := call) (mt := mt) h hd (fun v G' he => p_conv h hx hs hd' he) he
  | mxn x y X Y ts hx hy => exact p_two (call := call) (mt := mt) h hd (fun v G' he => p_mxn h hx hy he) he
  | mnn x y X Y ts hx hy => exact p_two (call := call) (mt := mt) h hd (fun v G' he => p_mnn h hx hy he) he

theorem Ret.st {V : Value} {v : AVal} (h : St M bx N C0 w0 L C β fr G a w) (hr : Ret M C C' G G' w w') (hv : VR M C' v V) (hd : DstOk bx N dst) : St M bx N C0 w0 L C' β (put fr dst v) G' (a.put dst V) w' :=
  (h.step hr.le hr.gr hr.un hr.lv hr.im).put hd (evR_of_VR hv)
theorem run_callFunc {P : Program} {k : FuncId} {args : Array Value} {w : World} (h : ∃ fn, P.funcs[k]? = some fn ∧ fn.name ≠ "runtime.NumGoroutine" ∧ fn.body.isNone = false) : (callFunc k args).run P w = .ok (.enter k args) w := by
  obtain ⟨fn, h1, h2, h3⟩ := h
  have h4 : fn.body ≠ none := by intro e; rw [e] at h3; cases h3
  simp [callFunc, h1, h2, h4]
theorem call_two (hc : CallOK M call) (hf : FnsOk M) (h : St M bx N C0 w0 L C β fr G a w) {m : CM} {f : Nat} {k : FuncId} {vs : List AVal} {args : Array Value} {op : Op} (hk : M.fm f = some k) (ha : VsR M C vs args) (hd : DstOk bx N dst) {v : AVal}
    (hrun : (execOp a.eval ⟨dst, op, ty, pos, after, guard⟩).run M.P w = .ok (.enter k args) w) (he : callBy call m f vs G = some (v, G')) : Goes2 M bx N C0 w0 L (put fr dst v) G' a w ⟨dst, op, ty, pos, after, guard⟩ := by
  intro next Q hn
  unfold Oper.wp
  rw [hrun]
  refine Calls.mono (callBy_ok hc hk he h.gr ha) (fun e w' he => ?_)
  cases e with
  | returned V =>
    obtain ⟨C', hr, hv⟩ := he
    exact hn C' β w' V (hr.st h hv hd)
  | panicked _ => exact he.elim
  | outgrown => exact he.elim
theorem St.vsr (h : St M bx N C0 w0 L C β fr G a w) {xs : List Opd} {Xs : Array Operand} {vs : List AVal} (hx : OpsR M xs Xs) (hv : Ai.gevs fr xs = some vs) : VsR M C vs (Xs.map a.eval) := by
  obtain ⟨h1, h2⟩ := gevs_get xs vs hv
  refine ⟨by rw [h1, Array.size_map]; exact hx.1, fun i x y hxi hyi => ?_⟩
  have hi : i < xs.length := by rw [← h1]; exact (List.getElem?_eq_some_iff.1 hxi).1
  have hiX : i < Xs.size := by rw [← hx.1]; exact hi
  obtain ⟨v, hv1, hv2⟩ := h2 i _ (List.getElem?_eq_getElem hi)
  rw [hxi] at hv1
  injection hv1 with hv1
  subst hv1
  rw [Array.getElem?_map, Array.getElem?_eq_getElem hiX] at hyi
  simp only [Option.map_some] at hyi
  injection hyi with hyi
  subst hyi
  exact h.gev (hx.2 i _ _ (List.getElem?_eq_getElem hi) (Array.getElem?_eq_getElem hiX)) hv2

theorem run_method {P : Program} {t : TypeId} {nm : String} {k : FuncId} (h : PtrMeth P t nm k) (V : Value) (w : World) : ∀ fuel, (method (fuel + 1) t V nm).run P w = .ok (k, V) w := by
  obtain ⟨i, m, e, m1, m2, m3, m4, m5⟩ := h
  intro fuel
  simp [method, typeInfo, m1, m2, m3, m4, follow, receiverAt, Place.get, run_underlying m5]
theorem op_ok (hc : CallOK M call) (hf : FnsOk M) (hmt : MtOK M mt) (h : St M bx N C0 w0 L C β fr G a w) {o : AOp} {op : Op} (hp : OpA M bx N dst o op)
    (he : evD call mt ⟨j, dst, none, o⟩ fr G = some (fr', G')) : Goes2 M bx N C0 w0 L fr' G' a w ⟨dst, op, ty, pos, after, guard⟩ := by
  cases hp with
  | p o op hp hd => exact opP_two h hp hd he
  | boxP x t X hx hd => exact Goes.two (e_boxP h hx hd he)
  | allocP z t zv hz hd => exact Goes.two (e_allocP h hz.hz hz.hr hd he)
  | boxH x t X hx hd => exact Goes.two (e_boxH h hx hd he)
  | allocH z t zv hz hne hd => exact Goes.two (e_allocH h hz.hz hz.hr hne hd he)
  | store n x v t X V hx hv hs hd => exact Goes.two (e_store h hx hv hs hd he)
  | app z bytes x y t e X Y zv hx hy he' hd => exact Goes.two (e_app h hx hy he' hd he)
  | litI z t e len ps parts zv hl hd => exact Goes.two (e_litI h hl hd he)
  | litO z t e len ps parts zv hl hd => exact Goes.two (e_litO h hl hd he)
  | mks z bytes n t e X Y zv hx hy he' hr hd => exact Goes.two (e_mks h hx hy he' hr hd he)
  | cpy z x y t t' e X Y hx hy ht hz hz0 hd => exact Goes.two (e_cpy h hx hy ht hz hz0 hd he)
  | call m f k as As ts hk ha hd =>
    simp only [evD, evOp, Option.bind_eq_some_iff] at he
    obtain ⟨⟨v, G1⟩, ⟨vs, hvs, hr⟩, he⟩ := he
    injection he with he; injection he with h1 h2
    subst h1 h2
    refine call_two hc hf h hk (h.vsr ha hvs) hd ?_ hr
    simp [execOp, resolve, Act.eval, Deferred.ofValue, invoke, run_callFunc (hf f k hk)]
  | callv m x as X As ts hx ha hd =>
    have hX := h.ev hx
    simp only [evD, evOp, Option.bind_eq_some_iff] at he
    obtain ⟨⟨v, G1⟩, hr, he⟩ := he
    injection he with he; injection he with h1 h2
    subst h1 h2
    generalize x.ev fr = xv at hr hX
    cases xv <;> simp only at hr <;> try (cases hr; done)
    rename_i f caps
    simp only [Option.bind_eq_some_iff] at hr
    obtain ⟨vs, hvs, hr⟩ := hr
    obtain ⟨k, cargs, hV, hk, hcl, hcr⟩ := vr_func (show VR M C (.func f caps) (a.eval X) from hX)
    refine call_two hc hf h hk ((h.vsr ha hvs).append ⟨hcl, hcr⟩) hd ?_ hr
    simp [execOp, resolve, hV, Deferred.ofValue, invoke, run_callFunc (hf f k hk)]
  | inv x name nm as X As ts hx hn ha hd =>
    have hX := h.ev hx
    simp only [evD, evOp, Option.bind_eq_some_iff] at he
    obtain ⟨⟨v, G1⟩, hr, he⟩ := he
    injection he with he; injection he with h1 h2
    subst h1 h2
    generalize x.ev fr = xv at hr hX
    cases xv <;> simp only at hr <;> try (cases hr; done)
    rename_i tag u
    simp only [Option.bind_eq_some_iff] at hr
    obtain ⟨f, hmf, vs, hvs, hr⟩ := hr
    obtain ⟨t, W, hV, ht, hu⟩ := vr_iface (show VR M C (.iface tag u) (a.eval X) from hX)
    obtain ⟨k, hk, hpm⟩ := hmt tag name f t nm hmf ht hn
    have hargs := h.vsr ha hvs
    refine call_two (m := .whole) hc hf h hk (vs := u :: vs) (args := #[W] ++ As.map a.eval) ?_ hd ?_ hr
    · exact VsR.append (as := [u]) (X := #[W]) ⟨rfl, fun i x y hx hy => by
        cases i with
        | zero => simp at hx hy; subst hx hy; exact hu
        | succ i => simp at hx⟩ hargs
    · have hm1 := run_method hpm W w (M.P.types.size + 99)
      have hex : ((#[Value.iface t W] ++ As.map a.eval).extract 1 (#[Value.iface t W] ++ As.map a.eval).size) = As.map a.eval := by
        apply Array.ext'
        simp only [Array.toList_extract, Array.toList_append, List.size_toArray, Array.size_append, List.extract_eq_take_drop]
        simp [List.take_of_length_le]
      have h0 : (#[Value.iface t W] ++ As.map a.eval)[0]? = some (Value.iface t W) := by
        rw [Array.getElem?_append_left (by simp)]; rfl
      have hcm : (callMethod (.iface t W) nm (As.map a.eval)).run M.P w = .ok (.enter k (#[W] ++ As.map a.eval)) w := by
        simp only [callMethod, Sem.run_bind, run_program, Result.andThen_ok]
        rw [show M.P.types.size + Made.depth = M.P.types.size + 99 + 1 from rfl, hm1]
        simp only [Result.andThen_ok]
        exact run_callFunc (hf f k hk)
      have hiv : ∀ args : Array Value, args[0]? = some (.iface t W) → args.extract 1 args.size = As.map a.eval → (invoke (.fn (.method nm) #[]) args).run M.P w = .ok (.enter k (#[W] ++ As.map a.eval)) w := by
        intro args h1 h2
        simp only [invoke, h1, h2]
        exact hcm
      simp only [execOp, resolve, hV, Sem.run_bind, Sem.run_pure, Result.andThen_ok]
      exact hiv _ h0 hex
end
end Go.Ai
set_option linter.unusedVariables false
set_option linter.unusedSimpArgs false
namespace Go.Ai

def AOp.opds : AOp → List Opd
  | .mv x | .boxP x | .boxH x | .load _ x | .nilck x | .nt x | .neg x | .fld _ x | .ext x _ | .fieldv _ _ x | .len x | .slen x | .mki _ x | .mks _ _ x | .conv _ x | .sl0 x | .isnil _ x | .mkm x => [x]
  | .pick c a b => [c, a, b]
  | .allocP _ | .allocH _ => []
  | .build _ ps => ps.map (·.2.2)
  | .litI _ ps | .litO _ ps => ps
  | .store _ x v => [x, v]
  | .bin _ x y | .eqk _ _ x y | .idx _ x y | .app _ _ x y | .cpy _ x y => [x, y]
  | .call _ _ as => as
  | .callv _ x as | .inv x _ as => x :: as
  | .mkf _ cs => cs
  | .sl _ x lo hi => x :: (lo.toList ++ hi.toList)
  | .mxn _ xs => xs
  | .free t | .fz t | .fzb t _ => [.t t]
  | .again t o => .t t :: o.opds

section
variable {call : CallF} {mt : Nat → Nat → Option Nat} {fr fr' : Fr} {G : AG}

theorem gevs_congr : ∀ (xs : List Opd), (∀ x ∈ xs, x.ev fr' = x.ev fr) → gevs fr' xs = gevs fr xs := by
  intro xs
  induction xs with
  | nil => intro _; rfl
  | cons x xs ih =>
    intro h
    simp only [gevs, Opd.gev, h x (List.mem_cons_self ..), ih (fun y hy => h y (List.mem_cons_of_mem _ hy))]
theorem gcells_congr {x : Opd} (h : x.ev fr' = x.ev fr) : gcells fr' x = gcells fr x := by simp only [gcells, Opd.gev, h]
theorem gcellss_congr : ∀ (xs : List Opd), (∀ x ∈ xs, x.ev fr' = x.ev fr) → gcellss fr' xs = gcellss fr xs := by
  intro xs
  induction xs with
  | nil => intro _; rfl
  | cons x xs ih =>
    intro h
    simp only [gcellss, gcells_congr (h x (List.mem_cons_self ..)), ih (fun y hy => h y (List.mem_cons_of_mem _ hy))]
theorem partsOf_congr : ∀ (ps : List (Nat × Nat × Opd)), (∀ x ∈ ps.map (·.2.2), x.ev fr' = x.ev fr) → partsOf fr' ps = partsOf fr ps := by
  intro xs
  induction xs with
  | nil => intro _; rfl
  | cons p xs ih =>
    obtain ⟨o, n, x⟩ := p
    intro h
    simp only [partsOf, gcells_congr (h x (List.mem_cons_self ..)), ih (fun y hy => h y (List.mem_cons_of_mem _ hy))]
theorem opt_congr {o : Option Opd} (h : ∀ x ∈ o.toList, x.ev fr' = x.ev fr) : o.map (·.ev fr') = o.map (·.ev fr) := by
  cases o with
  | none => rfl
  | some x => simp only [Option.map_some, h x (by simp)]
theorem evOp_congr {o : AOp} (e : ∀ x ∈ o.opds, x.ev fr' = x.ev fr) (b : ∀ k x, o = .load k x → ∀ d c, x.ev fr = .pptr d c → fr' d = fr d) : evOp call mt fr' G o = evOp call mt fr G o := by
  cases o <;> simp only [AOp.opds, List.mem_cons, List.not_mem_nil, or_false, forall_eq_or_imp, forall_eq, List.mem_append] at e <;>
    first
    | rfl
    | (simp only [evOp, Opd.gev, e]; done)
    | (simp only [evOp, gcells_congr e, partsOf_congr _ e, gcellss_congr _ e, gevs_congr _ e]; done)
    | skip
  case load k x =>
    have hb := b k x rfl
    simp only [evOp, e]
    cases hx : x.ev fr <;> try rfl
    simp only [hb _ _ hx]
  case build z ps => simp only [evOp, partsOf_congr ps e]
  case boxH x => simp only [evOp, gcells_congr e]
  case litI z ps => simp only [evOp, gcellss_congr ps e]
  case litO z ps => simp only [evOp, gcellss_congr ps e]
  case call m f as => simp only [evOp, gevs_congr as e]
  case callv m x as => simp only [evOp, e.1, gevs_congr as e.2]
  case inv x n as => simp only [evOp, e.1, gevs_congr as e.2]
  case mkf f cs => simp only [evOp, gevs_congr cs e]
  case fz t =>
    have e' : pv t (fr' t) = pv t (fr t) := e
    simp only [evOp, e']
  case mxn m xs => simp only [evOp, gevs_congr xs e]
  case sl z x lo hi =>
    simp only [evOp, e.1, opt_congr (fun x hx => e.2 x (.inl hx)), opt_congr (fun x hx => e.2 x (.inr hx))]

/-- Two frames that differ at t alone, which an operation neither looks at nor gives. -/
structure Off (i : AI) (t : Nat) (fr : Fr) : Prop where
  op : ∀ x ∈ i.op.opds, x ≠ .t t
  g : ∀ s w, i.grd = some (s, w) → s ≠ t
  dst : i.dst ≠ some t
  pp : ∀ x ∈ i.op.opds, ∀ c, x.ev fr ≠ .pptr t c
theorem ev_upd {x : Opd} {t : Nat} {v : AVal} (h : x ≠ .t t) : x.ev (upd fr t v) = x.ev fr := by
  cases x with
  | c v => rfl
  | t n => simp only [Opd.ev, upd]; rw [if_neg (fun e => h (by rw [e]))]
theorem upd_ne {t s : Nat} {v : AVal} (h : s ≠ t) : upd fr t v s = fr s := by simp only [upd]; rw [if_neg h]
theorem upd_eq {t : Nat} {v : AVal} : upd fr t v t = v := by simp [upd]
theorem upd_comm {t s : Nat} {u v : AVal} (h : s ≠ t) : upd (upd fr t v) s u = upd (upd fr s u) t v := by
  funext n
  simp only [upd]
  by_cases h1 : n = s <;> by_cases h2 : n = t <;> simp [h1, h2]
  · exact absurd (h1.symm.trans h2) h
  · intro e; exact absurd e h
  · intro e; exact absurd e.symm h
theorem put_upd {t : Nat} {d : Option Nat} {u v : AVal} (h : d ≠ some t) : put (upd fr t v) d u = upd (put fr d u) t v := by
  cases d with
  | none => rfl
  | some d => exact upd_comm (fun e => h (by rw [e]))
theorem evOp_off {o : AOp} {t : Nat} {v : AVal} (h : ∀ x ∈ o.opds, x ≠ .t t) (hp : ∀ x ∈ o.opds, ∀ c, x.ev fr ≠ .pptr t c) : evOp call mt (upd fr t v) G o = evOp call mt fr G o := by
  refine evOp_congr (fun x hx => ev_upd (h x hx)) (fun k x e d c hd => ?_)
  subst e
  exact upd_ne (fun e => hp x (by simp [AOp.opds]) c (by rw [← e]; exact hd))
theorem evD_off {i : AI} {t : Nat} {v : AVal} (h : Off i t fr) : evD call mt i (upd fr t v) G = (evD call mt i fr G).map fun s => (upd s.1 t v, s.2) := by
  obtain ⟨j, d, g, o⟩ := i
  obtain ⟨h1, h2, h3, h4⟩ := h
  simp only at h1 h2 h3 h4
  have key : ((evOp call mt (upd fr t v) G o).bind fun r => some (put (upd fr t v) d r.1, r.2)) = ((evOp call mt fr G o).bind fun r => some (put fr d r.1, r.2)).map fun s => (upd s.1 t v, s.2) := by
    rw [evOp_off h1 h4]
    cases evOp call mt fr G o with
    | none => rfl
    | some r => simp only [Option.bind_some, Option.map_some, put_upd h3]
  cases o <;> first | exact key | skip
  case fzb b c =>
    have hb : b ≠ t := fun e => h1 (.t b) (by simp [AOp.opds]) (by rw [e])
    simp only [evD, upd_ne hb]
    cases fr b with
    | pbox cs =>
      dsimp only
      cases cs[c]? with
      | none => rfl
      | some u =>
        cases u <;> try rfl
        · simp only [Option.map_some, upd_comm hb]
        · rename_i id off len
          dsimp only
          cases G.obj id with
          | none => rfl
          | some es =>
            simp only [Option.bind_some]
            split
            · simp only [Option.map_some, upd_comm hb]
            · rfl
    | _ => rfl
  case boxP x =>
    cases d with
    | none => rfl
    | some d =>
      have hd : d ≠ t := fun e => h3 (by rw [e])
      have hx : gcells (upd fr t v) x = gcells fr x := gcells_congr (ev_upd (h1 x (by simp [AOp.opds])))
      simp only [evD, upd_ne hd, hx]
      cases fr d <;> try rfl
      simp only
      cases gcells fr x with
      | none => rfl
      | some cs => simp only [Option.bind_some, Option.map_some, upd_comm hd]
  case allocP z =>
    cases d with
    | none => rfl
    | some d =>
      have hd : d ≠ t := fun e => h3 (by rw [e])
      simp only [evD, upd_ne hd]
      cases fr d <;> try rfl
      simp only [Option.map_some, upd_comm hd]
  case store n x u =>
    have hx : x.ev (upd fr t v) = x.ev fr := ev_upd (h1 x (by simp [AOp.opds]))
    have hu : gcells (upd fr t v) u = gcells fr u := gcells_congr (ev_upd (h1 u (by simp [AOp.opds])))
    simp only [evD, hx, hu]
    cases gcells fr u with
    | none => rfl
    | some vs =>
      simp only [Option.bind_some]
      by_cases hn : vs.length = n
      · rw [if_pos hn, if_pos hn]
        cases hxe : x.ev fr <;> try rfl
        · rename_i id i c
          simp only
          cases G.obj id with
          | none => rfl
          | some es =>
            simp only [Option.bind_some]
            cases es[i]? with
            | none => rfl
            | some e => simp only [Option.bind_some]; split <;> rfl
        · rename_i b c
          have hb : b ≠ t := fun e => h4 x (by simp [AOp.opds]) c (by rw [← e]; exact hxe)
          simp only [upd_ne hb]
          cases fr b <;> try rfl
          simp only
          split
          · simp only [Option.map_some, upd_comm hb]
          · rfl
      · rw [if_neg hn, if_neg hn]; rfl
  case free s =>
    have hs : s ≠ t := fun e => h1 (.t s) (by simp [AOp.opds]) (by rw [e])
    simp only [evD, upd_ne hs]
    cases fr s <;> rfl
  case again s o =>
    have hs : s ≠ t := fun e => h1 (.t s) (by simp [AOp.opds]) (by rw [e])
    have ho : evOp call mt (upd fr t v) G o = evOp call mt fr G o := evOp_off (fun x hx => h1 x (by simp [AOp.opds, hx])) (fun x hx => h4 x (by simp [AOp.opds, hx]))
    simp only [evD, upd_ne hs, ho]
    cases evOp call mt fr G o with
    | none => rfl
    | some r => simp only [Option.bind_some]; by_cases hc : r.1 = fr s
                · rw [if_pos (show r.1 = upd fr t v s by rw [upd_ne hs]; exact hc), if_pos hc]; rfl
                · rw [if_neg (show ¬ r.1 = upd fr t v s by rw [upd_ne hs]; exact hc), if_neg hc]; rfl
theorem evI_off {i : AI} {t : Nat} {v : AVal} (h : Off i t fr) : evI call mt i (upd fr t v) G = (evI call mt i fr G).map fun s => (upd s.1 t v, s.2) := by
  unfold evI
  cases hg : i.grd with
  | none => exact evD_off h
  | some sw =>
    obtain ⟨s, w⟩ := sw
    have hs : s ≠ t := h.g s w hg
    simp only [upd_ne hs]
    cases fr s <;> try rfl
    · rename_i b
      simp only
      split
      · exact evD_off h
      · simp only [Option.map_some, put_upd h.dst]
    · rename_i vs
      cases vs with
      | nil => simp only [Option.map_some, put_upd h.dst]
      | cons v vs => rfl

/-- What reads the heap or a struct variable. -/
def AOp.mem : AOp → Bool
  | .load _ _ | .idx _ _ _ | .sl _ _ _ _ => true
  | _ => false
/-- What depends on its operands alone. -/
def AOp.pure : AOp → Bool
  | .mv _ | .pick _ _ _ | .boxP _ | .allocP _ | .build _ _ | .litI _ _ | .nilck _ | .bin _ _ _ | .eqk _ _ _ _ | .nt _ | .neg _ | .fld _ _ | .ext _ _ | .fieldv _ _ _ | .len _ | .slen _ | .mkf _ _ | .mki _ _ | .conv _ _ | .mxn _ _ | .sl0 _ | .isnil _ _ | .mkm _ => true
  | .litO _ ps => ps.isEmpty
  | _ => false
open Classical in
theorem evOp_pure {o : AOp} (h : o.pure = true) (hb : (∀ x, o ≠ .boxP x) ∧ ∀ z, o ≠ .allocP z) : ∃ u : Option AVal, ∀ G, evOp call mt fr G o = u.map fun v => (v, G) := by
  cases o <;> simp only [AOp.pure, Bool.false_eq_true] at h <;> try (exact absurd rfl (hb.1 _)) <;> try (exact absurd rfl (hb.2 _))
  case allocP z => exact absurd rfl (hb.2 z)
  case litO z ps =>
    have hp : ps = [] := by simpa using h
    subst hp
    exact ⟨some .nils, fun G => by simp [evOp, gcellss]⟩
  case mv x => exact ⟨some (x.ev fr), fun _ => rfl⟩
  case pick c a b =>
    refine ⟨pickv (c.ev fr) (a.ev fr) (b.ev fr), fun G => ?_⟩
    simp only [evOp]
    generalize c.ev fr = x, a.ev fr = y, b.ev fr = z
    cases x <;> cases y <;> cases z <;> rfl
  case build z ps => exact ⟨(partsOf fr ps).map fun vs => .agg (fillB z vs), fun G => by simp only [evOp]; cases partsOf fr ps <;> rfl⟩
  case litI z ps =>
    refine ⟨(gcellss fr ps).bind fun es => if (∀ e ∈ es, e.length = z) then some (.list es) else none, fun G => ?_⟩
    simp only [evOp]
    cases gcellss fr ps with
    | none => rfl
    | some es => simp only [Option.bind_some]; by_cases hc : ∀ e ∈ es, e.length = z
                 · rw [if_pos hc, if_pos hc]; rfl
                 · rw [if_neg hc, if_neg hc]; rfl
  case nilck x => exact ⟨nilckV (x.ev fr), fun G => by simp only [evOp]; cases x.ev fr <;> rfl⟩
  case bin op x y =>
    refine ⟨(x.gev fr).bind fun a => (y.gev fr).bind fun b => binv op a b, fun G => ?_⟩
    simp only [evOp]
    cases x.gev fr with
    | none => rfl
    | some a => cases y.gev fr with
      | none => rfl
      | some b => simp only [Option.bind_some]; cases binv op a b <;> rfl
  case eqk k neg x y =>
    refine ⟨(x.gev fr).bind fun a => (y.gev fr).bind fun b => eqkv k neg a b, fun G => ?_⟩
    simp only [evOp]
    cases x.gev fr with
    | none => rfl
    | some a => cases y.gev fr with
      | none => rfl
      | some b => simp only [Option.bind_some]; cases eqkv k neg a b <;> rfl
  case nt x => exact ⟨ntV (x.ev fr), fun G => by simp only [evOp]; cases x.ev fr <;> rfl⟩
  case neg x => exact ⟨negV (x.ev fr), fun G => by simp only [evOp]; cases x.ev fr <;> rfl⟩
  case fld off x => exact ⟨fldV off (x.ev fr), fun G => by simp only [evOp]; cases x.ev fr <;> rfl⟩
  case ext x i =>
    refine ⟨extV i (x.ev fr), fun G => ?_⟩
    simp only [evOp]
    cases x.ev fr <;> try rfl
    rename_i vs
    simp only [extV]
    cases vs[i]? <;> rfl
  case fieldv off k x =>
    refine ⟨fieldV off k (x.ev fr), fun G => ?_⟩
    simp only [evOp]
    cases x.ev fr <;> try rfl
    rename_i cs
    simp only [fieldV]
    cases ldv k cs off <;> rfl
  case len x => exact ⟨lenV (x.ev fr), fun G => by simp only [evOp]; cases x.ev fr <;> rfl⟩
  case slen x => exact ⟨slenV (x.ev fr), fun G => by simp only [evOp]; cases x.ev fr <;> rfl⟩
  case mkf f caps => exact ⟨(gevs fr caps).map (.func f), fun G => by simp only [evOp]; cases gevs fr caps <;> rfl⟩
  case mki t x => exact ⟨(x.gev fr).map (.iface t), fun G => by simp only [evOp]; cases x.gev fr <;> rfl⟩
  case sl0 x => exact ⟨sl0V (x.ev fr), fun G => by simp only [evOp]; cases x.ev fr <;> rfl⟩
  case isnil neg x => exact ⟨isnilV neg (x.ev fr), fun G => by simp only [evOp]; cases x.ev fr <;> rfl⟩
  case mkm x => exact ⟨mkmV (x.ev fr), fun G => by simp only [evOp]; cases x.ev fr <;> rfl⟩
  case conv k x => exact ⟨convV k (x.ev fr), fun G => by simp only [evOp]; cases x.ev fr <;> rfl⟩
  case mxn mx xs =>
    refine ⟨(gevs fr xs).bind fun vs => match vs with
      | [.int k a, .int k' b] => if k = k' then some (.int k (if mx then (if b > a then b else a) else (if b < a then b else a))) else none
      | _ => none, fun G => ?_⟩
    simp only [evOp]
    cases gevs fr xs with
    | none => rfl
    | some vs =>
      simp only [Option.bind_some]
      split
      · rename_i k a k' b
        by_cases hk : k = k'
        · simp only [if_pos hk]; rfl
        · simp only [if_neg hk]; rfl
      · rename_i hn
        split
        · exact absurd rfl (hn _ _ _ _)
        · rfl
theorem evOp_mem {o : AOp} (h : o.mem = true) : ∃ u : Option AVal, evOp call mt fr G o = u.map fun v => (v, G) := by
  cases o <;> simp only [AOp.mem, Bool.false_eq_true] at h
  · exact ⟨_, ev_load⟩
  · exact ⟨_, ev_idx⟩
  · exact ⟨_, ev_sl⟩
end
end Go.Ai
set_option linter.unusedVariables false
set_option linter.unusedSimpArgs false
namespace Go.Ai

abbrev S2 := Fr × AG
def AOp.isBox : AOp → Bool
  | .boxP _ | .allocP _ => true
  | _ => false
def AOp.simple (o : AOp) : Bool := o.pure || o.mem
def againOf (i : AI) (t : Nat) : AI := ⟨i.j, none, i.grd, .again t i.op⟩
structure PPf (bx : List Nat) (fr : Fr) : Prop where
  pp : ∀ n d c, fr n = .pptr d c → d ∈ bx ∧ fr d ≠ .undef
  bx : ∀ n cs, fr n = .pbox cs → n ∈ bx
def NoPC (x : Opd) : Prop := ∀ d c, x ≠ .c (.pptr d c)
/-- A slot that an operation neither looks at nor gives. -/
structure OffS (i : AI) (t : Nat) : Prop where
  op : ∀ x ∈ i.op.opds, x ≠ .t t
  g : ∀ s w, i.grd = some (s, w) → s ≠ t
  dst : i.dst ≠ some t
  pc : ∀ x ∈ i.op.opds, NoPC x
section
variable {call : CallF} {mt : Nat → Nat → Option Nat} {fr fr' fr1 fr2 : Fr} {G G' G1 G2 : AG} {bx : List Nat}

theorem PPf.no (h : PPf bx fr) {x : Opd} {t : Nat} (hx : NoPC x) (ht : x ≠ .t t) (hb : t ∉ bx ∨ fr t = .undef) (c : Nat) : x.ev fr ≠ .pptr t c := by
  intro e
  cases x with
  | c v => exact hx t c (by rw [show v = .pptr t c from e])
  | t n =>
    simp only [Opd.ev] at e
    cases hn : fr n with
    | pptr d c' =>
      rw [hn] at e
      simp only [pv] at e
      injection e with e1 e2
      subst e1
      obtain ⟨h1, h2⟩ := h.pp n d c' hn
      rcases hb with hb | hb
      · exact hb h1
      · exact h2 hb
    | pbox cs =>
      rw [hn] at e
      simp only [pv] at e
      injection e with e1 e2
      exact ht (by rw [e1])
    | _ => rw [hn] at e; simp only [pv] at e; cases e
theorem OffS.off {i : AI} {t : Nat} (h : OffS i t) (hp : PPf bx fr) (hb : t ∉ bx ∨ fr t = .undef) : Off i t fr :=
  ⟨h.op, h.g, h.dst, fun x hx c => hp.no (h.pc x hx) (h.op x hx) hb c⟩
theorem off_put {i : AI} {d : Option Nat} {v : AVal} (h : ∀ t, d = some t → Off i t fr) : evI call mt i (put fr d v) G = (evI call mt i fr G).map fun s => (put s.1 d v, s.2) := by
  cases d with
  | none => simp only [put]; cases evI call mt i fr G <;> rfl
  | some t => exact evI_off (h t rfl)
theorem put_comm {d e : Option Nat} {u v : AVal} (h : ∀ t, d = some t → e ≠ some t) : put (put fr d u) e v = put (put fr e v) d u := by
  cases d with
  | none => rfl
  | some d => exact put_upd (h d rfl)
/-- Where an operation's value goes: a struct variable's slot, or any other. -/
def DstS (bx : List Nat) (i : AI) : Prop := (i.op.isBox = true → i.grd = none) ∧ (i.op.isBox = false → ∀ t, i.dst = some t → t ∉ bx)

theorem noBox {o : AOp} (h : o.isBox = false) : (∀ x, o ≠ .boxP x) ∧ ∀ z, o ≠ .allocP z := by
  constructor <;> (intro x e; subst e; cases h)
theorem evD_val {i : AI} (h : i.op.simple = true) (hb : i.op.isBox = false) : evD call mt i fr G = (evOp call mt fr G i.op).bind fun r => some (put fr i.dst r.1, r.2) := by
  obtain ⟨j, d, g, o⟩ := i
  cases o <;> first | rfl | (simp only [AOp.simple, AOp.pure, AOp.mem, AOp.isBox, Bool.or_self, Bool.false_eq_true, reduceCtorEq] at h hb)
theorem simple_frame {i : AI} (h : i.op.simple = true) (hd : DstS bx i) (he : evI call mt i fr G = some (fr', G')) : G' = G ∧ ∃ v, fr' = put fr i.dst v ∧ ∀ t, i.dst = some t → t ∉ bx ∨ fr t = .undef := by
  cases hbx : i.op.isBox with
  | false =>
    have h1 : ∀ t, i.dst = some t → t ∉ bx ∨ fr t = .undef := fun t ht => .inl (hd.2 hbx t ht)
    have h2 : evD call mt i fr G = some (fr', G') → G' = G ∧ ∃ v, fr' = put fr i.dst v ∧ ∀ t, i.dst = some t → t ∉ bx ∨ fr t = .undef := by
      intro he
      rw [evD_val h hbx] at he
      simp only [Option.bind_eq_some_iff] at he
      obtain ⟨⟨v, Gr⟩, hr, he⟩ := he
      injection he with he; injection he with e1 e2
      have hG : Gr = G := by
        simp only [AOp.simple, Bool.or_eq_true] at h
        rcases h with h | h
        · obtain ⟨u, hu⟩ := evOp_pure (call := call) (mt := mt) (fr := fr) h (noBox hbx)
          rw [hu] at hr
          cases u with
          | none => cases hr
          | some u => injection hr with hr; injection hr with _ e; exact e.symm
        · obtain ⟨u, hu⟩ := evOp_mem (call := call) (mt := mt) (fr := fr) (G := G) h
          rw [hu] at hr
          cases u with
          | none => cases hr
          | some u => injection hr with hr; injection hr with _ e; exact e.symm
      exact ⟨by rw [← e2]; exact hG, v, e1.symm, h1⟩
    unfold evI at he
    split at he
    · exact h2 he
    · split at he
      · split at he
        · exact h2 he
        · injection he with he; injection he with e1 e2
          exact ⟨e2.symm, _, e1.symm, h1⟩
      · injection he with he; injection he with e1 e2
        exact ⟨e2.symm, _, e1.symm, h1⟩
      · cases he
  | true =>
    unfold evI at he
    rw [hd.1 hbx] at he
    simp only at he
    obtain ⟨j, d, g, o⟩ := i
    cases o <;> simp only [AOp.isBox, Bool.false_eq_true] at hbx
    · cases d with
      | none => cases he
      | some d =>
        simp only [evD] at he
        split at he
        · rename_i hu
          simp only [Option.bind_eq_some_iff] at he
          obtain ⟨cs, _, he⟩ := he
          injection he with he; injection he with e1 e2
          exact ⟨e2.symm, _, e1.symm, fun t ht => .inr (by injection ht with ht; rw [← ht]; exact hu)⟩
        · cases he
    · cases d with
      | none => cases he
      | some d =>
        simp only [evD] at he
        split at he
        · rename_i hu
          injection he with he; injection he with e1 e2
          exact ⟨e2.symm, _, e1.symm, fun t ht => .inr (by injection ht with ht; rw [← ht]; exact hu)⟩
        · cases he
/-- An operation that depends on its operands alone, in another frame and another heap. -/
theorem pure_move {i : AI} {v : AVal} (h : i.op.pure = true) (hd : DstS bx i) (he : evI call mt i fr G = some (put fr i.dst v, G))
    (hop : ∀ x ∈ i.op.opds, x.ev fr2 = x.ev fr) (hg : ∀ s w, i.grd = some (s, w) → ((∃ b, fr s = .bool b) ∨ fr s = .tuple []) → fr2 s = fr s) (hbox : ∀ t, i.dst = some t → fr t = .undef → fr2 t = .undef) :
    ∃ u, put fr i.dst u = put fr i.dst v ∧ evI call mt i fr2 G2 = some (put fr2 i.dst u, G2) := by
  cases hbx : i.op.isBox with
  | false =>
    have hs : i.op.simple = true := by simp [AOp.simple, h]
    obtain ⟨u, hu⟩ := evOp_pure (call := call) (mt := mt) (fr := fr) h (noBox hbx)
    have hu2 : evOp call mt fr2 G2 i.op = u.map fun v => (v, G2) := by
      rw [evOp_congr hop (fun k x e => by rw [e] at h; cases h)]; exact hu G2
    have h2 : evD call mt i fr G = some (put fr i.dst v, G) → ∃ u, put fr i.dst u = put fr i.dst v ∧ evD call mt i fr2 G2 = some (put fr2 i.dst u, G2) := by
      intro he
      rw [evD_val hs hbx, hu] at he
      rw [evD_val hs hbx, hu2]
      cases u with
      | none => cases he
      | some u =>
        injection he with he; injection he with e1 e2
        exact ⟨u, e1, rfl⟩
    unfold evI at he ⊢
    split at he
    · exact h2 he
    · rename_i s w hgr
      have hgs := hg s w hgr
      split at he
      · rename_i b hb
        rw [hgs (.inl ⟨b, hb⟩), hb]
        simp only
        split at he
        · rename_i hw; rw [if_pos hw]; exact h2 he
        · rename_i hw
          rw [if_neg hw]
          injection he with he; injection he with e1 e2
          exact ⟨_, e1, rfl⟩
      · rename_i hb
        rw [hgs (.inr hb), hb]
        injection he with he; injection he with e1 e2
        exact ⟨_, e1, rfl⟩
      · cases he
  | true =>
    unfold evI at he ⊢
    rw [hd.1 hbx] at he ⊢
    simp only at he ⊢
    obtain ⟨j, d, g, o⟩ := i
    cases o <;> simp only [AOp.isBox, Bool.false_eq_true] at hbx
    · rename_i x
      cases d with
      | none => cases he
      | some d =>
        simp only [evD] at he ⊢
        split at he
        · rename_i hu
          rw [hbox d rfl hu]
          simp only [gcells_congr (hop x (by simp [AOp.opds]))]
          simp only [Option.bind_eq_some_iff] at he
          obtain ⟨cs, hcs, he⟩ := he
          injection he with he; injection he with e1 e2
          exact ⟨.pbox cs, e1, by rw [hcs]; rfl⟩
        · cases he
    · cases d with
      | none => cases he
      | some d =>
        simp only [evD] at he ⊢
        split at he
        · rename_i hu
          rw [hbox d rfl hu]
          injection he with he; injection he with e1 e2
          exact ⟨_, e1, rfl⟩
        · cases he
theorem frame_ofD {i : AI} (he : evD call mt i fr G = some (fr1, G1)) : fr1 = fr ∨ (∃ v, fr1 = put fr i.dst v) ∨ ∃ d cs cs', fr d = .pbox cs ∧ fr1 = upd fr d (.pbox cs') := by
  obtain ⟨j, d, g, o⟩ := i
  have key : ∀ (o : AOp), (evOp call mt fr G o).bind (fun r => some (put fr d r.1, r.2)) = some (fr1, G1) → fr1 = fr ∨ (∃ v, fr1 = put fr d v) ∨ ∃ d cs cs', fr d = .pbox cs ∧ fr1 = upd fr d (.pbox cs') := by
    intro o h
    simp only [Option.bind_eq_some_iff] at h
    obtain ⟨r, _, h⟩ := h
    injection h with h; injection h with h1 h2
    exact .inr (.inl ⟨_, h1.symm⟩)
  cases o <;> try exact key _ he
  case fzb b c =>
    simp only [evD] at he
    split at he
    · rename_i cs hb
      split at he
      · injection he with h; injection h with h1 h2
        exact .inr (.inr ⟨b, cs, _, hb, h1.symm⟩)
      · simp only [Option.bind_eq_some_iff] at he
        obtain ⟨es, _, h⟩ := he
        split at h
        · injection h with h; injection h with h1 h2
          exact .inr (.inr ⟨b, cs, _, hb, h1.symm⟩)
        · cases h
      · cases he
    · cases he
  case mv x => exact key (.mv x) he
  case allocH z => exact key (.allocH z) he
  case boxP x =>
    cases d with
    | none => cases he
    | some d =>
      simp only [evD] at he
      split at he
      · simp only [Option.bind_eq_some_iff] at he
        obtain ⟨cs, _, h⟩ := he
        injection h with h; injection h with h1 h2
        exact .inr (.inl ⟨_, h1.symm⟩)
      · cases he
  case allocP x =>
    cases d with
    | none => cases he
    | some d =>
      simp only [evD] at he
      split at he
      · injection he with h; injection h with h1 h2
        exact .inr (.inl ⟨_, h1.symm⟩)
      · cases he
  case store n x v =>
    simp only [evD, Option.bind_eq_some_iff] at he
    obtain ⟨vs, _, h⟩ := he
    split at h
    · split at h
      · rename_i b c _
        split at h
        · rename_i cs hb
          split at h
          · injection h with h; injection h with h1 h2
            exact .inr (.inr ⟨b, cs, _, hb, h1.symm⟩)
          · cases h
        · cases h
      · simp only [Option.bind_eq_some_iff] at h
        obtain ⟨es, _, e, _, h⟩ := h
        split at h
        · injection h with h; injection h with h1 h2
          exact .inl h1.symm
        · cases h
      · cases h
    · cases h
  case free b =>
    simp only [evD] at he
    split at he
    · injection he with h; injection h with h1 h2
      exact .inl h1.symm
    · injection he with h; injection h with h1 h2
      exact .inl h1.symm
    · cases he
  case again b o =>
    simp only [evD, Option.bind_eq_some_iff] at he
    obtain ⟨r, _, h⟩ := he
    split at h
    · injection h with h; injection h with h1 h2
      exact .inl h1.symm
    · cases h
/-- What an operation does to the frame. -/
theorem frame_of {i : AI} (he : evI call mt i fr G = some (fr1, G1)) : fr1 = fr ∨ (∃ v, fr1 = put fr i.dst v) ∨ ∃ d cs cs', fr d = .pbox cs ∧ fr1 = upd fr d (.pbox cs') := by
  unfold evI at he
  split at he
  · exact frame_ofD he
  · split at he
    · split at he
      · exact frame_ofD he
      · injection he with he; injection he with e1 e2
        exact .inr (.inl ⟨_, e1.symm⟩)
    · injection he with he; injection he with e1 e2
      exact .inr (.inl ⟨_, e1.symm⟩)
    · cases he
end
end Go.Ai
