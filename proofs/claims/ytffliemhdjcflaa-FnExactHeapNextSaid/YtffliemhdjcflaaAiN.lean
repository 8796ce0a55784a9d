/- The law FnExactHeapNext, as a run of the lowered program. -/
import Derived.Test.YtffliemhdjcflaaAiM8
set_option linter.unusedSimpArgs false
set_option linter.unusedVariables false
namespace Go.Ai
variable {mt : Nat → Nat → Option Nat}
attribute [local simp] cnd_ite gS_ite
theorem nextR_form (p : GProg) (h : GHeap) : ∃ o b, nextR p h = aRes o b := by
  unfold nextR
  split
  · split
    · split
      · split
        · exact ⟨_, _, rfl⟩
        · exact ⟨_, _, rfl⟩
      · exact ⟨_, _, rfl⟩
    · exact ⟨_, _, rfl⟩
  · exact ⟨_, _, rfl⟩
theorem law_0 (p : GProg) (h : GHeap) (hp : SmP p) (hh : SmH h) (k : Nat) : Gv k (.bool true) (run AP mt 0 [aProg p, aHeap h] ⟨k, noObj⟩) := by
  obtain ⟨x, hx, hxs, qx⟩ := z_4 (mt := mt) p 1048576 (by omega) hp
  unfold Q at qx
  rw [run_evS AP_0 _ _ rfl]
  rcases Int.lt_or_le x 0 with hx0 | hx0
  · simp [c_0, qx, hx0]
    exact Gv.bool (by repeat (first | exact Nat.le_refl _ | apply le_nxt)) rfl
  have hx0' : ¬ x < 0 := by omega
  obtain ⟨y, hy, hys, qy⟩ := z_5 (mt := mt) h x ⟨hx0, hx.2⟩ hh
  unfold Q at qy
  rcases Int.lt_or_le y 0 with hy0 | hy0
  · simp [c_0, qx, hx0', qy, hy0]
    exact Gv.bool (by repeat (first | exact Nat.le_refl _ | apply le_nxt)) rfl
  have hy0' : ¬ y < 0 := by omega
  have hP := hxs hx0
  have hH := hys hy0
  have q7 := t_7 (mt := mt) p hP.l hP.m
  have q8 := t_8 (mt := mt) h hH.l hH.c hH.s
  have q6 := r_6 (mt := mt) p h hP hH
  have q9 := m_9 (mt := mt) p h hP hH
  obtain ⟨o, b, hn⟩ := nextR_form p h
  rw [hn] at q6 q9
  have q10 := y_10 (mt := mt) o
  have q11 := y_11 (mt := mt) p hP.l hP.m
  have q12 := y_12 (mt := mt) h hH.l hH.c hH.s
  unfold Q at q7 q8 q6 q9 q10 q11 q12
  simp [c_0, qx, hx0', qy, hy0', q7, q8, q6, q9, q10, q11, q12]
  exact Gv.bool (by repeat (first | exact Nat.le_refl _ | apply le_nxt)) rfl
end Go.Ai
