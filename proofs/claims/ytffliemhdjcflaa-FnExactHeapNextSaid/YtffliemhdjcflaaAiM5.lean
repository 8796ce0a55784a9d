/- The program's test of a call. -/
import Derived.Test.YtffliemhdjcflaaAiM4
set_option linter.unusedSimpArgs false
set_option linter.unusedVariables false
namespace Go.Ai
variable {mt : Nat → Nat → Option Nat}
attribute [local simp] cnd_ite gS_ite
theorem m_68 (p : GProg) (c : GCall) (n : Int) (hp : ShP p) (hn : 0 ≤ n ∧ n ≤ 1048576) (hc : c.temps.length ≤ 1048576 ∧ c.stack.length ≤ 1048576) : Q mt 68 [aCall c, aProg p, vi n] (.bool (formOk p c n)) := by
  have q := fun a b c => r_66 (mt := mt) a b c
  have qt := m_96 (mt := mt) c.temps n (by omega) hc.1
  have qs := m_96 (mt := mt) c.stack n (by omega) hc.2
  unfold Q at q qt qs
  have hpl := hp.l
  have hw1 : IntKind.i64.wrap ((p.length : Int) - 1) = p.length - 1 := wrap_id (by omega) (by omega)
  have hw2 : IntKind.i64.wrap (n - 1) = n - 1 := wrap_id (by omega) (by omega)
  refine Q.of rfl (fun k => ?_)
  rw [run_evS AP_68 _ _ rfl]
  cases h1 : inR c.method 0 (p.length - 1)
  · simp [c_68, q, hw1, h1, formOk]
    exact Gv.bool (by repeat (first | exact Nat.le_refl _ | apply le_nxt)) rfl
  have h1' := inR_iff.1 h1
  obtain ⟨m, hm⟩ : ∃ m, p[c.method.toNat]? = some m := ⟨_, List.getElem?_eq_getElem (by omega)⟩
  have hix := fun g => idx_ok (g := g) (k := .i64) (w_Method p) (show (0:Int) ≤ c.method by omega) (by simp; omega)
  have hf : formOk p c n = formM m c n := by simp [formOk, h1, hm]
  rw [hf]
  unfold formM
  cases h2 : inR c.pc 0 m.ops.length
  · simp [c_68, q, hw1, hw2, h1, h2, hix, hm]
    exact Gv.bool (by repeat (first | exact Nat.le_refl _ | apply le_nxt)) rfl
  by_cases h3 : (c.temps.length : Int) = m.temps
  rotate_left
  · simp [c_68, q, hw1, hw2, h1, h2, h3, hix, hm]
    exact Gv.bool (by repeat (first | exact Nat.le_refl _ | apply le_nxt)) rfl
  by_cases h4 : c.stack.length ≤ 6
  rotate_left
  · have h4' : 6 < (c.stack.length : Int) := by omega
    simp [c_68, q, hw1, hw2, h1, h2, h3, h4, h4', hix, hm]
    exact Gv.bool (by repeat (first | exact Nat.le_refl _ | apply le_nxt)) rfl
  have h4' : ¬ (6 < (c.stack.length : Int)) := by omega
  cases h6 : c.temps.all (fun v => valOk v n)
  · simp [c_68, q, qt, qs, hw1, hw2, h1, h2, h3, h4, h4', h6, hix, hm]
    exact Gv.bool (by repeat (first | exact Nat.le_refl _ | apply le_nxt)) rfl
  cases h7 : c.stack.all (fun v => valOk v n)
  · simp [c_68, q, qt, qs, hw1, hw2, h1, h2, h3, h4, h4', h6, h7, hix, hm]
    exact Gv.bool (by repeat (first | exact Nat.le_refl _ | apply le_nxt)) rfl
  cases h5 : inR c.sender (-1) (n - 1)
  · simp [c_68, q, hw1, hw2, h1, h2, h3, h4, h4', h6, h7, h5, qt, qs, hix, hm]
    exact Gv.bool (by repeat (first | exact Nat.le_refl _ | apply le_nxt)) rfl
  cases h8 : c.dead
  · simp [c_68, q, qt, qs, hw1, hw2, h1, h2, h3, h4, h4', h5, h6, h7, h8, hix, hm]
    exact Gv.bool (by repeat (first | exact Nat.le_refl _ | apply le_nxt)) rfl
  by_cases h9 : c.sender = -1
  rotate_left
  · by_cases h10 : c.stack.length = 0
    · simp [c_68, q, qt, qs, hw1, hw2, h1, h2, h3, h4, h4', h5, h6, h7, h8, h9, h10, hix, hm]
      exact Gv.bool (by repeat (first | exact Nat.le_refl _ | apply le_nxt)) rfl
    · simp [c_68, q, qt, qs, hw1, hw2, h1, h2, h3, h4, h4', h5, h6, h7, h8, h9, h10, hix, hm]
      exact Gv.bool (by repeat (first | exact Nat.le_refl _ | apply le_nxt)) rfl
  simp only [h9] at h5
  by_cases h10 : c.stack.length = 0
  · simp [c_68, q, qt, qs, hw1, hw2, h1, h2, h3, h4, h4', h5, h6, h7, h8, h9, h10, hix, hm]
    exact Gv.bool (by repeat (first | exact Nat.le_refl _ | apply le_nxt)) rfl
  · simp [c_68, q, qt, qs, hw1, hw2, h1, h2, h3, h4, h4', h5, h6, h7, h8, h9, h10, hix, hm]
    exact Gv.bool (by repeat (first | exact Nat.le_refl _ | apply le_nxt)) rfl
end Go.Ai
