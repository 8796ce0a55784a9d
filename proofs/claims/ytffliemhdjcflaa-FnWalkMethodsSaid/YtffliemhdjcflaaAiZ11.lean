/- The given statement FnWalkMethods. -/
import Derived.Test.YtffliemhdjcflaaF4
import Derived.Test.YtffliemhdjcflaaC8
import Derived.Test.YtffliemhdjcflaaRows
import Derived.Test.YtffliemhdjcflaaC9
import Derived.ProofKit
set_option linter.unusedSimpArgs false
set_option linter.unusedVariables false
namespace Go.Proofs.Ytffliemhdjcflaa
open Go.ChangeShapes Go.WideShapes Go.ChangeAt Go.RowKit Go.Ai
theorem Try.own : ownKnob Try.prog.godebug = none := by kernel_rfl
theorem Try.func : Try.prog.funcs[6]? = some Try.f6 := by kernel_rfl
theorem Try.params : Try.f6.params = #[54] := by kernel_rfl
theorem Try.underB : Try.prog.underlying 4 = some .bool := by kernel_rfl
theorem rdByte (w : World) : Reads TM w 5 eB (fun x => x < 256) := reads_u8 (M := TM) (by kernel_rfl)
theorem rdBytes (w : World) : Reads TM w 54 (fun l : List Nat => [.list (l.map eB)]) (fun l => l.length ≤ 9223372036854775807 ∧ ∀ a ∈ l, (fun x : Nat => x < 256) a) := reads_slice (M := TM) (w := w) (t := 54) (e := 5) (z := 1) (by kernel_rfl) (by kernel_rfl) (by omega) (fun _ => rfl) (rdByte w)
theorem readBytes {w : World} {H : Type} {enc : TypeId × Value → H} {base : Nat} {sp : Nat → Bool} {held : Bool} {fuel : Nat} {v : Value} {x : DataW H × List MemPlace} (h : DataW.trod enc Try.prog w base sp held fuel 54 [v] = some x) :
    ∃ b : List Nat, (b.length ≤ 9223372036854775807 ∧ ∀ x ∈ b, x < 256) ∧ VR TM (rowsC w) (lB b) v := by
  obtain ⟨a, hs, hl, hc⟩ := rdBytes w H enc base sp held fuel [v] x h
  exact ⟨a, hs, (hc 0 _ v rfl rfl).v⟩
theorem kept_of {w w' : World} {L : Nat → Prop} (h : Un w w' L) (hL : ∀ b, ¬ L b) (may : MemPlace → Prop) : w.keptBut w' may := by
  refine ⟨h.os, h.output, fun i hi => ?_⟩
  rw [h.blk i hi (hL i)]
  cases hw : w.heap[i]? with
  | none => rfl
  | some o => cases o <;> simp
set_option maxRecDepth 100000 in
theorem fnWalkMethods_lifted (os : Os) (started : os.Started) (H : Type) (enc : TypeId × Value → H) :
    ReturnsInHanded {} Try.checked os 6 .any (Rows.fnWalkMethodsSpec.pre6 enc Try.prog Try.f6 Rows.fnWalkMethodsRow.domain false) (Rows.fnWalkMethodsSpec.post enc Try.prog Try.f6 false true false false) := by
  refine returnsInHanded_of_change (C := Try.checked) Try.own started (by kernel_rfl) Try.func
    (ChangeSpec.witness6 (enc := enc) (C := Try.checked) false ⟨#[], #[.slice none 0 0], []⟩ 8 (by kernel_rfl) (by kernel_rfl) (by kernel_rfl) (by kernel_rfl)) ?_
  intro W base args ds gs before hval0 hW hcnd _
  have hval : ∀ (j : Nat) t v, Try.f6.params[j]? = some t → args[j]? = some v → Value.okWide Try.prog W .any base t v := hval0
  have hW' := hW
  obtain ⟨p, q, hA0, hV, rfl, hfz, hnd⟩ := hW
  have hA : DataW.TrodAll enc Try.prog W 0 (fun _ => true) true Try.f6.params.toList args.toList ds p := hA0
  rw [Try.params] at hA hval
  obtain ⟨v0, d0, rfl, rfl, ⟨f0, h0⟩⟩ := trodAll_one hA
  obtain ⟨rfl, rfl⟩ := trodVars_none hV
  obtain ⟨sa0, sl0, sc0, rfl⟩ := okWide_slice (by kernel_rfl : Try.prog.underlying 54 = some (.slice 5)) (hval 0 54 v0 rfl rfl)
  obtain ⟨a0, s0, r0⟩ := readBytes h0
  clear hA0 hval0
  obtain ⟨r, m, g, hrun, _, hfr⟩ := law_3 (mt := fun _ _ => none) a0 s0 0
  have hr : r = .bool true := by
    cases r <;> simp [frz, Option.bind_eq_some_iff] at hfr <;> first | (subst hfr; rfl) | skip
  subst hr
  have hcall := callOK 3 6 [lB a0] ⟨0, noObj⟩ (.bool true) ⟨m, g⟩ (by kernel_rfl) hrun (rowsC W) W #[.slice sa0 sl0 sc0] (rows_gr TM W) ⟨rfl, fun i x y hx hy => by
    match i, hx, hy with
    | 0, hx, hy => simp at hx hy; subst hx hy; exact r0
    | k + 1, hx, hy => simp at hx⟩
  refine Calls.mono hcall (fun e W' he => ?_)
  cases e with
  | panicked _ => exact he.elim
  | outgrown => exact he.elim
  | returned V =>
    obtain ⟨C', hret, hv⟩ := he
    have hV := vr_bool hv
    subst hV
    have hL : ∀ b, ¬ live (rowsC W) ⟨0, noObj⟩ b := fun b hb => live_none hb
    have hkeep : ∀ b, b < W.heap.size → W'.heap[b]? = W.heap[b]? := fun b hb => hret.un.blk b hb (hL b)
    simp only [List.append_nil] at hW'
    refine ⟨_, rfl, post_of_same (pa := p) (pv := []) hW' (fun _ _ _ => trodAll_mk1 (shut_bool Try.underB _)) (fun sp hsp' => ?_) (fun _ _ => rfl) (by simp) (kept_of hret.un hL _) hret.un.fz (ok_one (by kernel_rfl) rfl (okWide_bool_mk Try.underB _))⟩
    show DataW.TrodAll enc Try.prog W' 0 sp true Try.f6.params.toList _ _ _
    rw [Try.params]
    exact trodAll_mk1 ⟨f0, trod_keep hkeep 8 54 f0 _ _ (by kernel_rfl) h0 (fun p hp => hsp' p (by simp [hp]))⟩
theorem fnWalkMethods_holds : Rows.FnWalkMethodsSaid :=
  OpenClaim.holds_of_wide 6 Try.f6 rfl rfl rfl rfl rfl rfl rfl ⟨rfl, rfl, rfl, rfl, rfl⟩ rfl rfl rfl rfl rfl (by kernel_rfl) Try.func (by kernel_rfl)
    (of_decide_eq_true (by kernel_rfl)) (by unfold Func.isWrapper; first | (rw [if_pos (by decide +kernel)]; kernel_rfl) | (rw [if_neg (by decide +kernel)]; exact ⟨rfl, rfl⟩))
    (fun os started H enc _ => fnWalkMethods_lifted os started H enc)
#print axioms fnWalkMethods_holds
end Go.Proofs.Ytffliemhdjcflaa
