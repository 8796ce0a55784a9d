/- One goes out of a call till it has returned: plain data. The laws FnWalkOut and FnWalkOutTwice, as runs of the lowered program. -/
import Derived.Test.YtbbnjbichjhmoaaGreatE1
set_option linter.unusedSimpArgs false
set_option linter.unusedVariables false
namespace Go.Ai
end Go.Ai
set_option linter.unusedSimpArgs false
set_option linter.unusedVariables false
namespace Go.Ai
attribute [local simp] cnd_ite gS_ite callBy_whole
theorem q_at {AP' : Nat → Option AFn} {mt : Nat → Nat → Option Nat} {f : Nat} {as : List AVal} {v : AVal} {k : Nat} (ha : frzs noObj as = some as) (h : Gv k v (run AP' mt f as ⟨k, noObj⟩)) (g : Heap') : callBy (run AP' mt) (.alone false true) f as ⟨k, g⟩ = some (v, ⟨nxt AP' mt f as k, g⟩) := by
  obtain ⟨r, m, g', h1, h2, h3⟩ := h
  exact call_alone ha (prun_of h1 h2 h3)
theorem whileS_add (p : GProg) (C : GHeap → Bool) (a c : Nat) (h : GHeap) : whileS p C (a + c) h = whileS p C c (whileS p C a h) := by
  induction a generalizing h with
  | zero => rw [Nat.zero_add]; rfl
  | succ a ih =>
    have e : ∀ n x, whileS p C (n + 1) x = if x.code = 0 ∧ C x = true then whileS p C n (stepS p x) else x := fun _ _ => rfl
    rw [Nat.succ_add, Nat.succ_eq_add_one, e, e]
    by_cases hc : h.code = 0 ∧ C h = true
    · rw [if_pos hc, if_pos hc, ih]
    · rw [if_neg hc, if_neg hc]
      cases c with
      | zero => rfl
      | succ c => rw [e, if_neg hc]
end Go.Ai
