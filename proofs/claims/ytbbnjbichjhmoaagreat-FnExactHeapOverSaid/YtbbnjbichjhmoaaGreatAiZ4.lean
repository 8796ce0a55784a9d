/- The given statement FnExactHeapOver. -/
import Derived.Test.YtbbnjbichjhmoaaGreatD7
import Derived.Test.YtbbnjbichjhmoaaGreatC8
import Derived.Test.YtbbnjbichjhmoaaGreatRows
import Derived.ProofKit
set_option linter.unusedSimpArgs false
set_option linter.unusedVariables false
namespace Go.Proofs.YtbbnjbichjhmoaaGreat
open Go.ChangeShapes Go.WideShapes Go.ChangeAt Go.RowKit Go.Ai
theorem Tryz.own : ownKnob Tryz.prog.godebug = none := by kernel_rfl
theorem Tryz.func : Tryz.prog.funcs[10]? = some Tryz.f10 := by kernel_rfl
theorem Tryz.params : Tryz.f10.params = #[42, 68, 3] := by kernel_rfl
theorem Tryz.underB : Tryz.prog.underlying 4 = some .bool := by kernel_rfl
theorem rdInt (w : World) : Reads TM w 3 (fun n : Int => [vi n]) (fun _ => True) := reads_int (M := TM) (by kernel_rfl)
theorem rdBool (w : World) : Reads TM w 4 (fun b : Bool => [.bool b]) (fun _ => True) := reads_bool (M := TM) (by kernel_rfl)
theorem rdOp (w : World) : Reads TM w 257 eOp (fun _ => True) := reads_Op (by kernel_rfl : stB TM.P 257 [3, 3] = true) (rdInt w) (rdInt w)
theorem rdOps (w : World) : Reads TM w 149 (fun l : List GOp => [.list (l.map eOp)]) (fun l => l.length ≤ 9223372036854775807 ∧ ∀ a ∈ l, (fun _ : GOp => True) a) := reads_slice (M := TM) (w := w) (t := 149) (e := 257) (z := 2) (by kernel_rfl) (by kernel_rfl) (by omega) (fun _ => rfl) (rdOp w)
theorem rdMethod (w : World) : Reads TM w 151 eMethod (fun m : GMethod => m.ops.length ≤ 9223372036854775807) := reads_Method (by kernel_rfl : stB TM.P 151 [3, 3, 149] = true) (rdInt w) (rdInt w) (rdOps w)
theorem rdMethods (w : World) : Reads TM w 40 (fun l : List GMethod => [.list (l.map eMethod)]) (fun l => l.length ≤ 9223372036854775807 ∧ ∀ a ∈ l, (fun m : GMethod => m.ops.length ≤ 9223372036854775807) a) := reads_slice (M := TM) (w := w) (t := 40) (e := 151) (z := 3) (by kernel_rfl) (by kernel_rfl) (by omega) (fun _ => rfl) (rdMethod w)
theorem rdVal (w : World) : Reads TM w 180 eVal (fun _ => True) := reads_Val (by kernel_rfl : stB TM.P 180 [3, 3] = true) (rdInt w) (rdInt w)
theorem rdVals (w : World) : Reads TM w 46 (fun l : List GVal => [.list (l.map eVal)]) (fun l => l.length ≤ 9223372036854775807 ∧ ∀ a ∈ l, (fun _ : GVal => True) a) := reads_slice (M := TM) (w := w) (t := 46) (e := 180) (z := 2) (by kernel_rfl) (by kernel_rfl) (by omega) (fun _ => rfl) (rdVal w)
theorem rdCall (w : World) : Reads TM w 158 eCall (fun c : GCall => c.temps.length ≤ 9223372036854775807 ∧ c.stack.length ≤ 9223372036854775807) := reads_Call (by kernel_rfl : stB TM.P 158 [3, 3, 46, 46, 3, 4] = true) (rdInt w) (rdInt w) (rdVals w) (rdVals w) (rdInt w) (rdBool w)
theorem rdCalls (w : World) : Reads TM w 66 (fun l : List GCall => [.list (l.map eCall)]) (fun l => l.length ≤ 9223372036854775807 ∧ ∀ a ∈ l, (fun c : GCall => c.temps.length ≤ 9223372036854775807 ∧ c.stack.length ≤ 9223372036854775807) a) := reads_slice (M := TM) (w := w) (t := 66) (e := 158) (z := 6) (by kernel_rfl) (by kernel_rfl) (by omega) (fun _ => rfl) (rdCall w)
theorem rdHeap (w : World) : Reads TM w 68 eHeap (fun h : GHeap => h.calls.length ≤ 9223372036854775807 ∧ (∀ c ∈ h.calls, c.temps.length ≤ 9223372036854775807 ∧ c.stack.length ≤ 9223372036854775807) ∧ h.said.length ≤ 9223372036854775807) := reads_Heap (by kernel_rfl : stB TM.P 68 [66, 3, 3, 46, 3] = true) (rdCalls w) (rdInt w) (rdInt w) (rdVals w) (rdInt w)
theorem agg_of {w : World} {cells : List AVal} {cs : Array Value} (hl : cells.length = cs.toList.length) (h : ∀ (i : Nat) u v, cells[i]? = some u → cs.toList[i]? = some v → CR TM (rowsC w) u v) : VR TM (rowsC w) (.agg cells) (.agg cs) :=
  ArR.vr ⟨by simpa using hl, fun i x y hx hy => h i x y hx (by simpa using hy)⟩
theorem readProg {w : World} {H : Type} {enc : TypeId × Value → H} {base : Nat} {sp : Nat → Bool} {held : Bool} {fuel : Nat} {cs : Array Value} {x : DataW H × List MemPlace} (h : DataW.trod enc Tryz.prog w base sp held fuel 42 cs.toList = some x) :
    ∃ p : GProg, SmP p ∧ VR TM (rowsC w) (aProg p) (.agg cs) := by
  obtain ⟨hl, hf⟩ := st_field (M := TM) (w := w) (by kernel_rfl : stB TM.P 42 [40] = true) h
  obtain ⟨p, hs, v, e0, c0⟩ := hf 0 40 rfl (rdMethods w) (fun _ => rfl)
  refine ⟨p, ⟨hs.1, hs.2⟩, agg_of (by rw [hl]; rfl) (fun i u v' hu hv => ?_)⟩
  cases i with
  | zero => rw [e0] at hv; injection hv with hv; subst hv; exact c0 u hu
  | succ i => simp at hu
theorem readHeap {w : World} {H : Type} {enc : TypeId × Value → H} {base : Nat} {sp : Nat → Bool} {held : Bool} {fuel : Nat} {cs : Array Value} {x : DataW H × List MemPlace} (h : DataW.trod enc Tryz.prog w base sp held fuel 68 cs.toList = some x) :
    ∃ h : GHeap, SmH h ∧ VR TM (rowsC w) (aHeap h) (.agg cs) := by
  obtain ⟨a, hs, hl, hc⟩ := rdHeap w H enc base sp held fuel cs.toList x h
  exact ⟨a, ⟨hs.1, hs.2.1, hs.2.2⟩, agg_of hl hc⟩
theorem kept_of {w w' : World} {L : Nat → Prop} (h : Un w w' L) (hL : ∀ b, ¬ L b) (may : MemPlace → Prop) : w.keptBut w' may := by
  refine ⟨h.os, h.output, fun i hi => ?_⟩
  rw [h.blk i hi (hL i)]
  cases hw : w.heap[i]? with
  | none => rfl
  | some o => cases o <;> simp
set_option maxRecDepth 100000 in
theorem fnExactHeapOver_lifted (os : Os) (started : os.Started) (H : Type) (enc : TypeId × Value → H) :
    ReturnsInHanded {} Tryz.checked os 10 .any (Rows.fnExactHeapOverSpec.pre6 enc Tryz.prog Tryz.f10 Rows.fnExactHeapOverRow.domain false) (Rows.fnExactHeapOverSpec.post enc Tryz.prog Tryz.f10 false true false false) := by
  refine returnsInHanded_of_change (C := Tryz.checked) Tryz.own started (by kernel_rfl) Tryz.func
    (ChangeSpec.witness6 (enc := enc) (C := Tryz.checked) false ⟨#[], #[.agg #[.slice none 0 0], .agg #[.slice none 0 0, .int .i64 0, .int .i64 0, .slice none 0 0, .int .i64 0], .int .i64 0], []⟩ 8 (by kernel_rfl) (by kernel_rfl) (by kernel_rfl) (by kernel_rfl)) ?_
  intro W base args ds gs before hval0 hW hcnd _
  have hval : ∀ (j : Nat) t v, Tryz.f10.params[j]? = some t → args[j]? = some v → Value.okWide Tryz.prog W .any base t v := hval0
  have hW' := hW
  obtain ⟨p, q, hA0, hV, rfl, hfz, hnd⟩ := hW
  have hA : DataW.TrodAll enc Tryz.prog W 0 (fun _ => true) true Tryz.f10.params.toList args.toList ds p := hA0
  rw [Tryz.params] at hA hval
  obtain ⟨v0, v1, v2, d0, d1, d2, p0, p1, p2, rfl, rfl, rfl, ⟨f0, h0⟩, ⟨f1, h1⟩, ⟨f2, h2⟩⟩ := trodAll_three hA
  obtain ⟨rfl, rfl⟩ := trodVars_none hV
  obtain ⟨fs0, hu0, _⟩ := stB_ok (by kernel_rfl : stB Tryz.prog 42 [40] = true)
  obtain ⟨c0, rfl, _⟩ := okWide_struct hu0 (hval 0 42 v0 rfl rfl)
  obtain ⟨a0, s0, r0⟩ := readProg h0
  obtain ⟨fs1, hu1, _⟩ := stB_ok (by kernel_rfl : stB Tryz.prog 68 [66, 3, 3, 46, 3] = true)
  obtain ⟨c1, rfl, _⟩ := okWide_struct hu1 (hval 1 68 v1 rfl rfl)
  obtain ⟨a1, s1, r1⟩ := readHeap h1
  obtain ⟨a2, rfl⟩ := okWide_int (k := .i64) (by kernel_rfl : Tryz.prog.underlying 3 = some (.int .i64)) (hval 2 3 v2 rfl rfl)
  have r2 : VR TM (rowsC W) (vi a2) (.int .i64 a2) := .int .i64 a2
  clear hA0 hval0
  obtain ⟨r, m, g, hrun, _, hfr⟩ := law_170 a0 a1 a2 s0 s1 0
  have hr : r = .bool true := by
    cases r <;> simp [frz, Option.bind_eq_some_iff] at hfr <;> first | (subst hfr; rfl) | skip
  subst hr
  have hcall := callOK 170 10 [aProg a0, aHeap a1, vi a2] ⟨0, noObj⟩ (.bool true) ⟨m, g⟩ (by kernel_rfl) hrun (rowsC W) W #[.agg c0, .agg c1, .int .i64 a2] (rows_gr TM W) ⟨rfl, fun i x y hx hy => by
    match i, hx, hy with
    | 0, hx, hy => simp at hx hy; subst hx hy; exact r0
    | 1, hx, hy => simp at hx hy; subst hx hy; exact r1
    | 2, hx, hy => simp at hx hy; subst hx hy; exact r2
    | k + 3, hx, hy => simp at hx⟩
  refine Calls.mono hcall (fun e W' he => ?_)
  cases e with
  | panicked _ => exact he.elim
  | outgrown => exact he.elim
  | returned V =>
    obtain ⟨C', hret, hv⟩ := he
    have hV := vr_bool hv
    subst hV
    have hL : ∀ b, ¬ live (rowsC W) ⟨0, noObj⟩ b := fun b hb => live_none hb
    have hkeep : ∀ b, b < W.heap.size → W'.heap[b]? = W.heap[b]? := fun b hb => hret.un.blk b hb (hL b)
    simp only [List.append_nil] at hW'
    refine ⟨_, rfl, post_of_same (pa := p0 ++ p1 ++ p2) (pv := []) hW' (fun _ _ _ => trodAll_mk1 (shut_bool Tryz.underB _)) (fun sp hsp' => ?_) (fun _ _ => rfl) (by simp) (kept_of hret.un hL _) hret.un.fz (ok_one (by kernel_rfl) rfl (okWide_bool_mk Tryz.underB _))⟩
    show DataW.TrodAll enc Tryz.prog W' 0 sp true Tryz.f10.params.toList _ _ _
    rw [Tryz.params]
    rw [List.append_assoc]
    exact trodAll_mk3 ⟨f0, trod_keep hkeep 8 42 f0 _ _ (by kernel_rfl) h0 (fun p hp => hsp' p (by simp [hp]))⟩ ⟨f1, trod_keep hkeep 8 68 f1 _ _ (by kernel_rfl) h1 (fun p hp => hsp' p (by simp [hp]))⟩ ⟨f2, trod_keep hkeep 8 3 f2 _ _ (by kernel_rfl) h2 (fun p hp => hsp' p (by simp [hp]))⟩
theorem fnExactHeapOver_holds : Rows.FnExactHeapOverSaid :=
  OpenClaim.holds_of_wide 10 Tryz.f10 rfl rfl rfl rfl rfl rfl rfl ⟨rfl, rfl, rfl, rfl, rfl⟩ rfl rfl rfl rfl rfl (by kernel_rfl) Tryz.func (by kernel_rfl)
    (of_decide_eq_true (by kernel_rfl)) (by unfold Func.isWrapper; first | (rw [if_pos (by decide +kernel)]; kernel_rfl) | (rw [if_neg (by decide +kernel)]; exact ⟨rfl, rfl⟩))
    (fun os started H enc _ => fnExactHeapOver_lifted os started H enc)
#print axioms fnExactHeapOver_holds
end Go.Proofs.YtbbnjbichjhmoaaGreat
