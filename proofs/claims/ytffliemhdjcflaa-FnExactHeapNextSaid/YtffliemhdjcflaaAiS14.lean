/- Every operation of the lowered program: what the program's own does. -/
import Derived.Test.YtffliemhdjcflaaAiS13
set_option linter.unusedVariables false
set_option linter.unusedSimpArgs false
namespace Go.Ai
variable {M : SM}

def DstOk (bx : List Nat) (N : Nat) (dst : Option Tmp) : Prop := ∀ t, dst = some t → t < N ∧ t ∉ bx
def BoxOk (bx : List Nat) (N : Nat) (dst : Option Tmp) : Prop := ∀ t, dst = some t → t < N ∧ t ∈ bx
structure ZeroR (M : SM) (z : List AVal) (t : TypeId) (zv : Value) : Prop where
  hz : (M.P.info? t).bind (·.zero) = some zv
  hr : ∀ C, CsR M C z zv.cells 0 ∧ z.length = zv.cells.size
def OpsR (M : SM) (xs : List Opd) (Xs : Array Operand) : Prop := xs.length = Xs.size ∧ ∀ (i : Nat) x X, xs[i]? = some x → Xs[i]? = some X → OpR M x X
/-- An operation of the lowered program and one of the program, with where their value goes. -/
inductive OpA (M : SM) (bx : List Nat) (N : Nat) (dst : Option Tmp) : AOp → Op → Prop
  | p (o op) (h : OpP M o op) (hd : DstOk bx N dst) : OpA M bx N dst o op
  | boxP (x t X) (hx : OpR M x X) (hd : BoxOk bx N dst) : OpA M bx N dst (.boxP x) (.box t X)
  | allocP (z t zv) (hz : ZeroR M z t zv) (hd : BoxOk bx N dst) : OpA M bx N dst (.allocP z) (.alloc t)
  | boxH (x t X) (hx : OpR M x X) (hd : DstOk bx N dst) : OpA M bx N dst (.boxH x) (.box t X)
  | allocH (z t zv) (hz : ZeroR M z t zv) (hne : z ≠ []) (hd : DstOk bx N dst) : OpA M bx N dst (.allocH z) (.alloc t)
  | store (n x v t X V) (hx : OpR M x X) (hv : OpR M v V) (hs : (M.P.info? t).map (·.size) = some n) (hd : dst = none) : OpA M bx N dst (.store n x v) (.store t X V)
  | app (z bytes x y t e X Y zv) (hx : OpR M x X) (hy : OpR M y Y) (he : ElT M.P t e z bytes zv) (hd : DstOk bx N dst) : OpA M bx N dst (.app z bytes x y) (.call { callee := .builtin .append, args := #[X, Y], argTypes := #[t, t] })
  | litI (z t e len ps parts zv) (hl : LitT M t e z len ps parts zv) (hd : DstOk bx N dst) : OpA M bx N dst (.litI z ps) (.buildSlice t len parts)
  | litO (z t e len ps parts zv) (hl : LitT M t e z len ps parts zv) (hd : DstOk bx N dst) : OpA M bx N dst (.litO z ps) (.buildSlice t len parts)
  | mks (z bytes n t e X Y zv) (hx : OpR M n X) (hy : OpR M n Y) (he : ElT M.P t e z.length bytes zv) (hr : ∀ C, CsR M C z zv.cells 0) (hd : DstOk bx N dst) : OpA M bx N dst (.mks z bytes n) (.makeSlice t X Y)
  | cpy (z x y t t' e X Y) (hx : OpR M x X) (hy : OpR M y Y) (ht : M.P.underlying t = some (.slice e)) (hz : (M.P.info? e).map (·.size) = some z) (hz0 : 0 < z) (hd : DstOk bx N dst) : OpA M bx N dst (.cpy z x y) (.call { callee := .builtin .copy, args := #[X, Y], argTypes := #[t, t'] })
  | call (m f k as As ts) (hk : M.fm f = some k) (ha : OpsR M as As) (hd : DstOk bx N dst) : OpA M bx N dst (.call m f as) (.call { callee := .value (.func k), args := As, argTypes := ts })
  | callv (m x as X As ts) (hx : OpR M x X) (ha : OpsR M as As) (hd : DstOk bx N dst) : OpA M bx N dst (.callv m x as) (.call { callee := .value X, args := As, argTypes := ts })
/-- Functions that are entered by a call. -/
def FnsOk (M : SM) : Prop := ∀ f k, M.fm f = some k → ∃ fn, M.P.funcs[k]? = some fn ∧ fn.name ≠ "runtime.NumGoroutine" ∧ fn.body.isNone = false

section
variable {bx : List Nat} {N : Nat} {C0 : Cx} {w0 : World} {L : Nat → Prop} {C C' : Cx} {β : Nat → Nat} {fr fr' : Fr} {G G' : AG} {a : Act} {w w' : World}
variable {call : CallF} {mt : Nat → Nat → Option Nat} {dst : Option Tmp} {ty : TypeId} {pos : String} {after : Array Edge} {guard : Option (Nat × Bool)} {j : Nat}

/-- What an operation comes to, a call among them. -/
def Goes2 (M : SM) (bx : List Nat) (N : Nat) (C0 : Cx) (w0 : World) (L : Nat → Prop) (fr' : Fr) (G' : AG) (a : Act) (w : World) (o : Oper) : Prop :=
  ∀ (next : Act → World → Prop) (Q : Exit → Act → World → Prop), (∀ C' β' w' V, St M bx N C0 w0 L C' β' fr' G' (a.put o.dst V) w' → next (a.put o.dst V) w') → o.wp M.P a w next Q
theorem Goes.two {o : Oper} (h : Goes M bx N C0 w0 L fr' G' a w o.dst ((execOp a.eval o).run M.P w)) : Goes2 M bx N C0 w0 L fr' G' a w o := by
  intro next Q hn
  obtain ⟨C', β', w', V, hst, hr⟩ := h
  unfold Oper.wp
  rcases hr with hr | ⟨hr, rfl⟩ <;> rw [hr]
  · exact hn C' β' w' V hst
  · exact hn C' β' w' _ hst
theorem p_two (h : St M bx N C0 w0 L C β fr G a w) {o : AOp} {op : Op} (hd : DstOk bx N dst) (hr : ∀ v G', evOp call mt fr G o = some (v, G') → ∃ V, (execOp a.eval ⟨dst, op, ty, pos, after, guard⟩).run M.P w = .ok (.value V) w ∧ EvR M bx C β fr v V ∧ G' = G)
    (he : ((evOp call mt fr G o).bind fun r => some (put fr dst r.1, r.2)) = some (fr', G')) : Goes2 M bx N C0 w0 L fr' G' a w ⟨dst, op, ty, pos, after, guard⟩ := by
  simp only [Option.bind_eq_some_iff] at he
  obtain ⟨⟨v, G1⟩, hr1, he⟩ := he
  injection he with he; injection he with h1 h2
  subst h1 h2
  obtain ⟨V, h1, h2, h3⟩ := hr v G1 hr1
  have h3' : G1 = G := h3
  subst h3'
  exact Goes.two ⟨C, β, w, V, h.put hd h2, .inl h1⟩
theorem opP_two (h : St M bx N C0 w0 L C β fr G a w) {o : AOp} {op : Op} (hp : OpP M o op) (hd : DstOk bx N dst)
    (he : evD call mt ⟨j, dst, none, o⟩ fr G = some (fr', G')) : Goes2 M bx N C0 w0 L fr' G' a w ⟨dst, op, ty, pos, after, guard⟩ := by
  cases hp with
  | mv x X hx => exact p_two (call := call) (mt := mt) h hd (fun v G' he => p_mv h hx he) he
  | as x X hx => exact p_two (call := call) (mt := mt) h hd (fun v G' he => p_as h hx he) he
  | pick c a b C A B hc ha hb => exact p_two (call := call) (mt := mt) h hd (fun v G' he => p_pick h hc ha hb he) he
  | build z ps t parts fields zv hz hzr ht hi hfit hl hp => exact p_two (call := call) (mt := mt) h hd (fun v G' he => p_build h hz hzr ht hi hfit hl hp he) he
  | load k x t X hx ht => exact p_two (call := call) (mt := mt) h hd (fun v G' he => p_load h hx ht he) he
  | nilck x X hx => exact p_two (call := call) (mt := mt) h hd (fun v G' he => p_nilck h hx he) he
  | bin op x y t X Y t' hx hy => exact p_two (call := call) (mt := mt) h hd (fun v G' he => p_bin h hx hy he) he
  | eq k x y t X Y t' hx hy ht => exact p_two (call := call) (mt := mt) h hd (fun v G' he => p_eq h hx hy ht he) he
  | ne k x y t X Y t' hx hy ht => exact p_two (call := call) (mt := mt) h hd (fun v G' he => p_ne h hx hy ht he) he
  | nt x t X hx => exact p_two (call := call) (mt := mt) h hd (fun v G' he => p_nt h hx he) he
  | neg x t X hx => exact p_two (call := call) (mt := mt) h hd (fun v G' he => p_neg h hx he) he
  | fld off x s X i fields f hx hs hf ho hn => exact p_two (call := call) (mt := mt) h hd (fun v G' he => p_fld h hx hs hf ho hn he) he
  | idx z x i t X I e hx hi ht hz => exact p_two (call := call) (mt := mt) h hd (fun v G' he => p_idx h hx hi ht hz he) he
  | ext x i X hx => exact p_two (call := call) (mt := mt) h hd (fun v G' he => p_ext h hx he) he
  | fieldv off k x s X i fields f hx hs hf ho hl => exact p_two (call := call) (mt := mt) h hd (fun v G' he => p_fieldv h hx hs hf ho hl he) he
  | len x X t as hx ht hc => subst hc; exact p_two (call := call) (mt := mt) h hd (fun v G' he => p_len h hx ht he) he
  | mkf f k caps Caps hf hl hc => exact p_two (call := call) (mt := mt) h hd (fun v G' he => p_mkf h hf hl hc he) he
  | mki tag t x X hx ht hc => exact p_two (call := call) (mt := mt) h hd (fun v G' he => p_mki h hx ht hc he) he
  | sl z x lo hi t X Lo Hi e hx hlo hhi ht hz => exact p_two (call := call) (mt := mt) h hd (fun v G' he => p_sl h hx hlo hhi ht hz he) he
  | conv k x s d X hx hs hd' => exact p_two (call := call) (mt := mt) h hd (fun v G' he => p_conv h hx hs hd' he) he
  | mxn x y X Y ts hx hy => exact p_two (call := call) (mt := mt) h hd (fun v G' he => p_mxn h hx hy he) he
  | mnn x y X Y ts hx hy => exact p_two (call := call) (mt := mt) h hd (fun v G' he => p_mnn h hx hy he) he

theorem Ret.st {V : Value} {v : AVal} (h : St M bx N C0 w0 L C β fr G a w) (hr : Ret M C C' G G' w w') (hv : VR M C' v V) (hd : DstOk bx N dst) : St M bx N C0 w0 L C' β (put fr dst v) G' (a.put dst V) w' :=
  (h.step hr.le hr.gr hr.un hr.lv hr.im).put hd (evR_of_VR hv)
theorem run_callFunc {P : Program} {k : FuncId} {args : Array Value} {w : World} (h : ∃ fn, P.funcs[k]? = some fn ∧ fn.name ≠ "runtime.NumGoroutine" ∧ fn.body.isNone = false) : (callFunc k args).run P w = .ok (.enter k args) w := by
  obtain ⟨fn, h1, h2, h3⟩ := h
  have h4 : fn.body ≠ none := by intro e; rw [e] at h3; cases h3
  simp [callFunc, h1, h2, h4]
theorem call_two (hc : CallOK M call) (hf : FnsOk M) (h : St M bx N C0 w0 L C β fr G a w) {m : CM} {f : Nat} {k : FuncId} {vs : List AVal} {args : Array Value} {op : Op} (hk : M.fm f = some k) (ha : VsR M C vs args) (hd : DstOk bx N dst) {v : AVal}
    (hrun : (execOp a.eval ⟨dst, op, ty, pos, after, guard⟩).run M.P w = .ok (.enter k args) w) (he : callBy call m f vs G = some (v, G')) : Goes2 M bx N C0 w0 L (put fr dst v) G' a w ⟨dst, op, ty, pos, after, guard⟩ := by
  intro next Q hn
  unfold Oper.wp
  rw [hrun]
  refine Calls.mono (callBy_ok hc hk he h.gr ha) (fun e w' he => ?_)
  cases e with
  | returned V =>
    obtain ⟨C', hr, hv⟩ := he
    exact hn C' β w' V (hr.st h hv hd)
  | panicked _ => exact he.elim
  | outgrown => exact he.elim
theorem St.vsr (h : St M bx N C0 w0 L C β fr G a w) {xs : List Opd} {Xs : Array Operand} {vs : List AVal} (hx : OpsR M xs Xs) (hv : Ai.gevs fr xs = some vs) : VsR M C vs (Xs.map a.eval) := by
  obtain ⟨h1, h2⟩ := gevs_get xs vs hv
  refine ⟨by rw [h1, Array.size_map]; exact hx.1, fun i x y hxi hyi => ?_⟩
  have hi : i < xs.length := by rw [← h1]; exact (List.getElem?_eq_some_iff.1 hxi).1
  have hiX : i < Xs.size := by rw [← hx.1]; exact hi
  obtain ⟨v, hv1, hv2⟩ := h2 i _ (List.getElem?_eq_getElem hi)
  rw [hxi] at hv1
  injection hv1 with hv1
  subst hv1
  rw [Array.getElem?_map, Array.getElem?_eq_getElem hiX] at hyi
  simp only [Option.map_some] at hyi
  injection hyi with hyi
  subst hyi
  exact h.gev (hx.2 i _ _ (List.getElem?_eq_getElem hi) (Array.getElem?_eq_getElem hiX)) hv2

theorem op_ok (hc : CallOK M call) (hf : FnsOk M) (h : St M bx N C0 w0 L C β fr G a w) {o : AOp} {op : Op} (hp : OpA M bx N dst o op)
    (he : evD call mt ⟨j, dst, none, o⟩ fr G = some (fr', G')) : Goes2 M bx N C0 w0 L fr' G' a w ⟨dst, op, ty, pos, after, guard⟩ := by
  cases hp with
  | p o op hp hd => exact opP_two h hp hd he
  | boxP x t X hx hd => exact Goes.two (e_boxP h hx hd he)
  | allocP z t zv hz hd => exact Goes.two (e_allocP h hz.hz hz.hr hd he)
  | boxH x t X hx hd => exact Goes.two (e_boxH h hx hd he)
  | allocH z t zv hz hne hd => exact Goes.two (e_allocH h hz.hz hz.hr hne hd he)
  | store n x v t X V hx hv hs hd => exact Goes.two (e_store h hx hv hs hd he)
  | app z bytes x y t e X Y zv hx hy he' hd => exact Goes.two (e_app h hx hy he' hd he)
  | litI z t e len ps parts zv hl hd => exact Goes.two (e_litI h hl hd he)
  | litO z t e len ps parts zv hl hd => exact Goes.two (e_litO h hl hd he)
  | mks z bytes n t e X Y zv hx hy he' hr hd => exact Goes.two (e_mks h hx hy he' hr hd he)
  | cpy z x y t t' e X Y hx hy ht hz hz0 hd => exact Goes.two (e_cpy h hx hy ht hz hz0 hd he)
  | call m f k as As ts hk ha hd =>
    simp only [evD, evOp, Option.bind_eq_some_iff] at he
    obtain ⟨⟨v, G1⟩, ⟨vs, hvs, hr⟩, he⟩ := he
    injection he with he; injection he with h1 h2
    subst h1 h2
    refine call_two hc hf h hk (h.vsr ha hvs) hd ?_ hr
    simp [execOp, resolve, Act.eval, Deferred.ofValue, invoke, run_callFunc (hf f k hk)]
  | callv m x as X As ts hx ha hd =>
    have hX := h.ev hx
    simp only [evD, evOp, Option.bind_eq_some_iff] at he
    obtain ⟨⟨v, G1⟩, hr, he⟩ := he
    injection he with he; injection he with h1 h2
    subst h1 h2
    generalize x.ev fr = xv at hr hX
    cases xv <;> simp only at hr <;> try (cases hr; done)
    rename_i f caps
    simp only [Option.bind_eq_some_iff] at hr
    obtain ⟨vs, hvs, hr⟩ := hr
    obtain ⟨k, cargs, hV, hk, hcl, hcr⟩ := vr_func (show VR M C (.func f caps) (a.eval X) from hX)
    refine call_two hc hf h hk ((h.vsr ha hvs).append ⟨hcl, hcr⟩) hd ?_ hr
    simp [execOp, resolve, hV, Deferred.ofValue, invoke, run_callFunc (hf f k hk)]
end
end Go.Ai
