/- The program's ProgOk. -/
import Derived.Test.YtffliemhdjcflaaAiM2
set_option linter.unusedSimpArgs false
set_option linter.unusedVariables false
namespace Go.Ai
variable {mt : Nat → Nat → Option Nat}
attribute [local simp] cnd_ite gS_ite
theorem any_not {α : Type} (f : α → Bool) : ∀ l : List α, (l.any fun x => !f x) = !l.all f := by
  intro l
  induction l with
  | nil => rfl
  | cons x xs ih => simp only [List.any_cons, List.all_cons, ih, Bool.not_and]
abbrev pP (p : GProg) : AVal := .iptr [[lMethod p]] 0 0
abbrev pM (m : GMethod) : AVal := .iptr [[vi m.args, vi m.temps, lOp m.ops]] 0 0
theorem m_91 (p : GProg) (m : GMethod) (o : GOp) (ht : 0 ≤ m.temps ∧ m.temps ≤ 1000) (hm : m.ops.length ≤ 1048576) (hp : p.length ≤ 1048576) : Q mt 91 [aOp o, pP p, pM m] (.bool (!opOk p m o)) := by
  have q := m_92 (mt := mt) p m o ht hm hp
  unfold Q at q
  refine Q.of rfl (fun k => ?_)
  rw [run_evS AP_91 _ _ rfl]
  simp [c_91, q]
  exact Gv.bool (by repeat (first | exact Nat.le_refl _ | apply le_nxt)) rfl
theorem m_89 (p : GProg) (m : GMethod) (hm : m.ops.length ≤ 1048576) (hp : p.length ≤ 1048576) : Q mt 89 [aMethod m, pP p] (.bool (!methodOk p m)) := by
  have q := fun a b c => r_66 (mt := mt) a b c
  unfold Q at q
  refine Q.of rfl (fun k => ?_)
  rw [run_evS AP_89 _ _ rfl]
  unfold methodOk
  cases h1 : inR m.args 0 2
  · simp [ldA, updO, c_89, q, h1]
    exact Gv.bool (by repeat (first | exact Nat.le_refl _ | exact Nat.le_succ _ | apply le_nxt)) rfl
  cases h2 : inR m.temps m.args 4
  · simp [ldA, updO, c_89, q, h1, h2]
    exact Gv.bool (by repeat (first | exact Nat.le_refl _ | exact Nat.le_succ _ | apply le_nxt)) rfl
  by_cases h3 : m.ops.length ≤ 14
  rotate_left
  · have h3' : (14 < (m.ops.length : Int)) := by omega
    simp [ldA, updO, c_89, q, h1, h2, h3, h3']
    exact Gv.bool (by repeat (first | exact Nat.le_refl _ | exact Nat.le_succ _ | apply le_nxt)) rfl
  have h3' : ¬ (14 < (m.ops.length : Int)) := by omega
  have h4 : 0 ≤ m.temps ∧ m.temps ≤ 1000 := by simp [inR] at h1 h2; omega
  have q90 := m_90 (mt := mt) m.ops hm 91 [pP p, pM m] rfl (fun o => !opOk p m o) (fun o _ => m_91 p m o h4 hm hp)
  rw [any_not] at q90
  have qT : ∀ n, callBy (run AP mt) (.alone true true) 90 [lOp m.ops, .func 91 [pP p, .ptr k 0 0]] ⟨n, updO noObj k (some [[vi m.args, vi m.temps, lOp m.ops]])⟩ = some (.bool (!m.ops.all (opOk p m)), ⟨nxt AP mt 90 [lOp m.ops, .func 91 [pP p, pM m]] n, updO noObj k (some [[vi m.args, vi m.temps, lOp m.ops]])⟩) := fun n =>
    q_T (as := [lOp m.ops, .func 91 [pP p, .ptr k 0 0]]) (as' := [lOp m.ops, .func 91 [pP p, pM m]]) (G := ⟨n, updO noObj k (some [[vi m.args, vi m.temps, lOp m.ops]])⟩) (by simp [frzs, frz, omap, updO]) rfl q90 rfl
  simp [ldA, updO, c_89, q, h1, h2, h3, h3', qT]
  exact Gv.bool (by repeat (first | exact Nat.le_refl _ | exact Nat.le_succ _ | apply le_nxt)) (by simp)
theorem m_65 (p : GProg) (h : ShP p) : Q mt 65 [aProg p] (.bool (progOk p)) := by
  have q := fun a b c => r_66 (mt := mt) a b c
  unfold Q at q
  have hpl := h.l
  refine Q.of rfl (fun k => ?_)
  rw [run_evS AP_65 _ _ rfl]
  unfold progOk
  cases h1 : inR p.length 1 4
  · simp [ldA, updO, c_65, q, h1]
    exact Gv.bool (by repeat (first | exact Nat.le_refl _ | exact Nat.le_succ _ | apply le_nxt)) rfl
  have hl : 1 ≤ p.length := by simp [inR] at h1; omega
  obtain ⟨d, ds, hd⟩ : ∃ d ds, p = d :: ds := by
    cases p with
    | nil => simp at hl
    | cons d ds => exact ⟨d, ds, rfl⟩
  have hg : p[0]? = some d := by rw [hd]; rfl
  have hh : p.head? = some d := by rw [hd]; rfl
  have hix := fun g => idx_ok (g := g) (k := .i64) (w_Method p) (show (0:Int) ≤ 0 by omega) (by simp; omega)
  by_cases h2 : d.args = 0
  rotate_left
  · simp [ldA, updO, c_65, q, h1, hix, hg, hh, h2]
    exact Gv.bool (by repeat (first | exact Nat.le_refl _ | exact Nat.le_succ _ | apply le_nxt)) rfl
  have q88 := m_88 (mt := mt) p h.l 89 [pP p] rfl (fun m => !methodOk p m) (fun m hm => m_89 p m (h.m m hm) h.l)
  rw [any_not] at q88
  have qT : ∀ n, callBy (run AP mt) (.alone true true) 88 [lMethod p, .func 89 [.ptr k 0 0]] ⟨n, updO noObj k (some [[lMethod p]])⟩ = some (.bool (!p.all (methodOk p)), ⟨nxt AP mt 88 [lMethod p, .func 89 [pP p]] n, updO noObj k (some [[lMethod p]])⟩) := fun n =>
    q_T (as := [lMethod p, .func 89 [.ptr k 0 0]]) (as' := [lMethod p, .func 89 [pP p]]) (G := ⟨n, updO noObj k (some [[lMethod p]])⟩) (by simp [frzs, frz, omap, updO]) rfl q88 rfl
  simp [ldA, updO, c_65, q, h1, hix, hg, hh, h2, qT]
  exact Gv.bool (by repeat (first | exact Nat.le_refl _ | exact Nat.le_succ _ | apply le_nxt)) (by simp)
end Go.Ai
