/- One goes out of a call till it has returned: plain data. The laws FnWalkOut and FnWalkOutTwice, as runs of the lowered program. -/
import Derived.Test.YtbbnjbichjhmoaaGreatE1
set_option linter.unusedSimpArgs false
set_option linter.unusedVariables false
namespace Go.Ai
theorem whileS_false {p : GProg} {C : GHeap → Bool} {f : Nat} {h : GHeap} (hc : C h = false) : whileS p C f h = h := by
  cases f with
  | zero => rfl
  | succ f => unfold whileS; rw [if_neg (fun hx => by rw [hc] at hx; cases hx.2)]
end Go.Ai
set_option linter.unusedSimpArgs false
set_option linter.unusedVariables false
namespace Go.Ai
attribute [local simp] cnd_ite gS_ite callBy_whole
theorem q_at {AP' : Nat → Option AFn} {mt : Nat → Nat → Option Nat} {f : Nat} {as : List AVal} {v : AVal} {k : Nat} (ha : frzs noObj as = some as) (h : Gv k v (run AP' mt f as ⟨k, noObj⟩)) (g : Heap') : callBy (run AP' mt) (.alone false true) f as ⟨k, g⟩ = some (v, ⟨nxt AP' mt f as k, g⟩) := by
  obtain ⟨r, m, g', h1, h2, h3⟩ := h
  exact call_alone ha (prun_of h1 h2 h3)
theorem whileS_add (p : GProg) (C : GHeap → Bool) (a c : Nat) (h : GHeap) : whileS p C (a + c) h = whileS p C c (whileS p C a h) := by
  induction a generalizing h with
  | zero => rw [Nat.zero_add]; rfl
  | succ a ih =>
    have e : ∀ n x, whileS p C (n + 1) x = if x.code = 0 ∧ C x = true then whileS p C n (stepS p x) else x := fun _ _ => rfl
    rw [Nat.succ_add, Nat.succ_eq_add_one, e, e]
    by_cases hc : h.code = 0 ∧ C h = true
    · rw [if_pos hc, if_pos hc, ih]
    · rw [if_neg hc, if_neg hc]
      cases c with
      | zero => rfl
      | succ c => rw [e, if_neg hc]
theorem law_164 (b : List Nat) (hb : b.length ≤ 9223372036854775807 ∧ ∀ x ∈ b, x < 256) (k : Nat) : Gv k (.bool true) (run AP MT 164 [lB b] ⟨k, noObj⟩) := by
  rw [run_evS AP_164 _ _ rfl]
  by_cases hlen : (1048576 : Int) < b.length
  · simp [c_164, hlen]
    exact Gv.bool (Nat.le_refl _) rfl
  obtain ⟨p, h, most, hp, hs, m0, m1, hd⟩ := (draw_171 (mt := MT) b hb.1 hb.2 k).toQ
  have qd := q_at (AP' := AP) (mt := MT) (f := 171) (as := [lB b]) rfl hd noObj
  obtain ⟨_, _, _, _, _, _, hP⟩ := prog_cons hp
  have hH := hs.sh
  have hss := hs.s
  have hR : ShH (outR p h most).1 := outR_sh p h most (by omega)
  have q172 := s_172 (mt := MT) p h most hP hH
  have q173 := q_173 p h most hP hH
  have q174 := lm_174 (mt := MT) (outR p h most).1 (outR p h most).1 hR
  rw [sameB_self] at q174
  unfold Q at q172 q173 q174
  by_cases hok : heapOkS p h = true ∧ inR most 0 400 = true
  rotate_left
  · have e : outR p h most = (zeroH, false) := by unfold outR; rw [if_neg hok]
    rw [e] at q172 q173 q174
    simp [c_164, hlen, qd, q172, q173, q174]
    exact Gv.bool (by repeat (first | exact Nat.le_refl _ | apply le_nxt)) rfl
  have w := wf_of hok.1
  have hm := inR_iff.1 hok.2
  obtain ⟨half, hh, hh0, hh1⟩ : ∃ x, most.tdiv 2 = x ∧ 0 ≤ x ∧ x ≤ 200 := ⟨_, rfl, (tdiv_in m0 (by omega)).1, by rw [Int.tdiv_eq_ediv_of_nonneg m0]; omega⟩
  have hhm : half ≤ most := by rw [← hh]; exact (tdiv_in m0 (by omega)).2
  have hw : IntKind.i64.wrap half = half := wrap_id (by omega) (by omega)
  have hw2 : IntKind.i64.wrap (half + 1) = half + 1 := wrap_id (by omega) (by omega)
  have e : outR p h most = (whileS p (fun x => decide (deepS h - 1 < deepS x)) most.toNat h, true) := by unfold outR; rw [if_pos hok]
  have e2 : outR p h half = (whileS p (fun x => decide (deepS h - 1 < deepS x)) half.toNat h, true) := by unfold outR; rw [if_pos ⟨hok.1, inR_iff.2 ⟨by omega, by omega⟩⟩]
  have e3 : outR p h (half + 1) = (whileS p (fun x => decide (deepS h - 1 < deepS x)) (half.toNat + 1) h, true) := by unfold outR; rw [if_pos ⟨hok.1, inR_iff.2 ⟨by omega, by omega⟩⟩, show (half + 1).toNat = half.toNat + 1 by omega]
  have hR2 : ShH (outR p h half).1 := outR_sh p h half (by omega)
  have q173h := q_173 p h half hP hH
  have q173i := q_173 p h (half + 1) hP hH
  unfold Q at q173h q173i
  rw [e] at q172 q173 q174
  rw [e2] at q173h hR2
  rw [e3, whileS_add] at q173i
  have hsplit : whileS p (fun x => decide (deepS h - 1 < deepS x)) most.toNat h = whileS p (fun x => decide (deepS h - 1 < deepS x)) (most.toNat - half.toNat) (whileS p (fun x => decide (deepS h - 1 < deepS x)) half.toNat h) := by
    rw [← whileS_add, show half.toNat + (most.toNat - half.toNat) = most.toNat by omega]
  have hstop := fun hc => whileS_stop p (fun x => decide (deepS h - 1 < deepS x)) (most.toNat - half.toNat) (h := whileS p (fun x => decide (deepS h - 1 < deepS x)) half.toNat h) hc
  have hfalse := fun hc => whileS_false (p := p) (C := fun x => decide (deepS h - 1 < deepS x)) (f := most.toNat - half.toNat) (h := whileS p (fun x => decide (deepS h - 1 < deepS x)) half.toNat h) hc
  have hlen2 := while_len p (fun x => decide (deepS h - 1 < deepS x)) 1 (whileS p (fun x => decide (deepS h - 1 < deepS x)) half.toNat h)
  rw [← hsplit] at hstop hfalse
  generalize whileS p (fun x => decide (deepS h - 1 < deepS x)) most.toNat h = X at *
  generalize whileS p (fun x => decide (deepS h - 1 < deepS x)) half.toNat h = Y at *
  generalize whileS p (fun x => decide (deepS h - 1 < deepS x)) 1 Y = V at *
  have q26 := m_26 (mt := MT) Y hR2.l
  have q26h := m_26 (mt := MT) h hH.l
  unfold Q at q26 q26h
  by_cases h1 : deepS Y < deepS h
  · have := hfalse (by simp; omega)
    subst this
    simp [c_164, hlen, qd, q172, q173, q174, hh, hw, q173h, q26, q26h, h1]
    exact Gv.bool (by repeat (first | exact Nat.le_refl _ | apply le_nxt)) rfl
  by_cases h2 : Y.code = 0
  rotate_left
  · have := hstop h2
    subst this
    simp [c_164, hlen, qd, q172, q173, q174, hh, hw, q173h, q26, q26h, h1, h2]
    exact Gv.bool (by repeat (first | exact Nat.le_refl _ | apply le_nxt)) rfl
  have h2' : (Y.code = 0) = True := eq_true h2
  have hl' : (Y.calls.length : Int) ≤ V.calls.length := by omega
  simp [c_164, hlen, qd, q172, q173, q174, hh, hw, hw2, q173h, q173i, q26, q26h, h1, h2', hlen2]
  exact Gv.bool (by repeat (first | exact Nat.le_refl _ | apply le_nxt)) rfl
end Go.Ai
