/- The laws FnWalkOver, FnWalkOverRun and FnWalkOutRun, as runs of the lowered program. -/
import Derived.Test.YtbbnjbichjhmoaaGreatE2
import Derived.Test.YtbbnjbichjhmoaaGreatD7
set_option linter.unusedSimpArgs false
set_option linter.unusedVariables false
namespace Go.Ai
attribute [local simp] cnd_ite gS_ite callBy_whole
theorem runS_add (p : GProg) (a c : Nat) (h : GHeap) : runS p (a + c) h = runS p c (runS p a h) := by
  rw [run_while, run_while, run_while, whileS_add]
theorem whileS_all {p : GProg} {C : GHeap → Bool} : ∀ {f : Nat} {y : GHeap}, (whileS p C f y).code = 0 → C (whileS p C f y) = true → whileS p C f y = runS p f y := by
  intro f
  induction f with
  | zero => intro y _ _; rfl
  | succ f ih =>
    intro y h1 h2
    have e : whileS p C (f + 1) y = if y.code = 0 ∧ C y = true then whileS p C f (stepS p y) else y := rfl
    have e2 : runS p (f + 1) y = if y.code = 0 then runS p f (stepS p y) else y := rfl
    rw [e] at h1 h2 ⊢
    by_cases hc : y.code = 0 ∧ C y = true
    · rw [if_pos hc] at h1 h2 ⊢
      rw [e2, if_pos hc.1]
      exact ih h1 h2
    · rw [if_neg hc] at h1 h2
      exact absurd ⟨h1, h2⟩ hc
theorem law_166 (b : List Nat) (hb : b.length ≤ 9223372036854775807 ∧ ∀ x ∈ b, x < 256) (k : Nat) : Gv k (.bool true) (run AP MT 166 [lB b] ⟨k, noObj⟩) := by
  rw [run_evS AP_166 _ _ rfl]
  by_cases hlen : (1048576 : Int) < b.length
  · simp [c_166, hlen]
    exact Gv.bool (Nat.le_refl _) rfl
  obtain ⟨p, h, most, hp, hs, m0, m1, hd⟩ := (draw_180 (mt := MT) b hb.1 hb.2 k).toQ
  have qd := q_at (AP' := AP) (mt := MT) (f := 180) (as := [lB b]) rfl hd noObj
  obtain ⟨_, _, _, _, _, _, hP⟩ := prog_cons hp
  have hH := hs.sh
  have hss := hs.s
  have hR : ShH (overR p h most).1 := overR_sh p h most (by omega)
  have q172 := s_181 (mt := MT) p h most hP hH (by omega)
  have q173 := q_182 p h most hP hH
  have q174 := lm_174 (mt := MT) (overR p h most).1 (overR p h most).1 hR
  rw [sameB_self] at q174
  unfold Q at q172 q173 q174
  by_cases hok : heapOkS p h = true ∧ inR most 1 400 = true
  rotate_left
  · have e : overR p h most = (zeroH, false) := by unfold overR; rw [if_neg hok]
    rw [e] at q172 q173 q174
    simp [c_166, hlen, qd, q172, q173, q174]
    exact Gv.bool (by repeat (first | exact Nat.le_refl _ | apply le_nxt)) rfl
  have w := wf_of hok.1
  have hm := inR_iff.1 hok.2
  have e : overR p h most = (whileS p (fun x => decide (deepS h < deepS x)) (most - 1).toNat (runS p 1 h), true) := by unfold overR; rw [if_pos hok]
  rw [e] at q172 q173 q174 hR
  have q183 := q_183 p h hP hH
  have e1 : runR p h 1 = (runS p 1 h, true) := by unfold runR; rw [if_pos ⟨hok.1, by decide⟩]; rfl
  rw [e1] at q183
  have q184 := q_184 p h most hP hH
  have ea : runR p h most = (runS p most.toNat h, true) := by unfold runR; rw [if_pos ⟨hok.1, inR_iff.2 ⟨by omega, by omega⟩⟩]
  rw [ea] at q184
  obtain ⟨l1, w1⟩ := run_wf 1 w
  have hs1 := run_said 1 w
  have q26o := m_26 (mt := MT) (runS p 1 h) (w1.sh (by omega)).l
  have q26h := m_26 (mt := MT) h hH.l
  have hstop := fun hc => whileS_stop p (fun x => decide (deepS h < deepS x)) (most - 1).toNat (h := runS p 1 h) hc
  have hfalse := fun hc => whileS_false (p := p) (C := fun x => decide (deepS h < deepS x)) (f := (most - 1).toNat) (h := runS p 1 h) hc
  obtain ⟨lx, wx⟩ := while_wf (C := fun x => decide (deepS h < deepS x)) (most - 1).toNat w1
  have hall := whileS_all (p := p) (C := fun x => decide (deepS h < deepS x)) (f := (most - 1).toNat) (y := runS p 1 h)
  rw [← runS_add, show 1 + (most - 1).toNat = most.toNat by omega] at hall
  unfold Q at q183 q184 q26o q26h
  have hone : h.code ≠ 0 → runS p 1 h = h := fun hc => by simp [runS, hc]
  generalize whileS p (fun x => decide (deepS h < deepS x)) (most - 1).toNat (runS p 1 h) = X at *
  have q26x := m_26 (mt := MT) X hR.l
  have q35 := m_35 (mt := MT) p X hP hR
  rw [heapOk_eq, ok_of wx] at q35
  unfold Q at q26x q35
  by_cases h0 : h.code = 0
  rotate_left
  · have e3 := hone h0
    have := hstop (by rw [e3]; exact h0)
    rw [← this] at q183
    simp [c_166, hlen, qd, q172, q173, q174, q183, h0]
    exact Gv.bool (by repeat (first | exact Nat.le_refl _ | apply le_nxt)) rfl
  have h0' : (h.code = 0) = True := eq_true h0
  by_cases h1 : deepS (runS p 1 h) ≤ deepS h
  · have := hfalse (by simp; omega)
    rw [← this] at q183 h1 q26o
    simp [c_166, hlen, qd, q172, q173, q174, q183, h0', q26o, q26h, h1]
    exact Gv.bool (by repeat (first | exact Nat.le_refl _ | apply le_nxt)) rfl
  generalize hO : runS p 1 h = O at *
  by_cases h2 : deepS X ≤ deepS h
  · simp [c_166, hlen, qd, q172, q173, q174, q183, h0', q26o, q26h, h1, q184, q35, q26x, h2]
    exact Gv.bool (by repeat (first | exact Nat.le_refl _ | apply le_nxt)) rfl
  by_cases h3 : X.code = 0
  rotate_left
  · simp [c_166, hlen, qd, q172, q173, q174, q183, h0', q26o, q26h, h1, q184, q35, q26x, h2, h3]
    exact Gv.bool (by repeat (first | exact Nat.le_refl _ | apply le_nxt)) rfl
  have := hall h3 (by simp; omega)
  rw [← this] at q184
  have h3' : (X.code = 0) = True := eq_true h3
  simp [c_166, hlen, qd, q172, q173, q174, q183, h0', q26o, q26h, h1, q184, q35, q26x, h2, h3']
  exact Gv.bool (by repeat (first | exact Nat.le_refl _ | apply le_nxt)) rfl
end Go.Ai
