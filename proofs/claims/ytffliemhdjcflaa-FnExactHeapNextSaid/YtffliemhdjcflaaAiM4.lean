/- The program's tests of values and calls. -/
import Derived.Test.YtffliemhdjcflaaAiM3
set_option linter.unusedSimpArgs false
set_option linter.unusedVariables false
namespace Go.Ai
variable {mt : Nat → Nat → Option Nat}
attribute [local simp] cnd_ite gS_ite
theorem m_94 (v : GVal) (n : Int) (hn : 0 ≤ n ∧ n ≤ 4611686018427387904) : Q mt 94 [aVal v, vi n] (.bool (valOk v n)) := by
  have q := fun a b c => r_66 (mt := mt) a b c
  unfold Q at q
  have hw : IntKind.i64.wrap (n - 1) = n - 1 := wrap_id (by omega) (by omega)
  refine Q.of rfl (fun k => ?_)
  rw [run_evS AP_94 _ _ rfl]
  simp [c_94, q, hw]
  repeat' (first | (exfalso; omega) | (refine Gv.bool (by repeat (first | exact Nat.le_refl _ | apply le_nxt)) ?_; simp [valOk, *]; done) | refine Gv.ite (fun h => ?_) (fun h => ?_) | simp [*])
theorem m_93 (p : GProg) (v : GVal) (hp : p.length ≤ 1048576) : Q mt 93 [aVal v, pP p] (.bool (!valOk v p.length)) := by
  have q := m_94 (mt := mt) v p.length ⟨by omega, by omega⟩
  unfold Q at q
  refine Q.of rfl (fun k => ?_)
  rw [run_evS AP_93 _ _ rfl]
  simp [c_93, q]
  exact Gv.bool (by repeat (first | exact Nat.le_refl _ | apply le_nxt)) rfl
theorem m_112 (v : GVal) (n : Int) (hn : 0 ≤ n ∧ n ≤ 4611686018427387904) : Q mt 112 [aVal v, .iptr [[vi n]] 0 0] (.bool (!valOk v n)) := by
  have q := m_94 (mt := mt) v n hn
  unfold Q at q
  refine Q.of rfl (fun k => ?_)
  rw [run_evS AP_112 _ _ rfl]
  simp [c_112, q]
  exact Gv.bool (by repeat (first | exact Nat.le_refl _ | apply le_nxt)) rfl
theorem m_96 (l : List GVal) (n : Int) (hn : 0 ≤ n ∧ n ≤ 4611686018427387904) (hl : l.length ≤ 1048576) : Q mt 96 [lVal l, vi n] (.bool (l.all fun v => valOk v n)) := by
  refine Q.of rfl (fun k => ?_)
  rw [run_evS AP_96 _ _ rfl]
  have q := m_95 (mt := mt) l hl 112 [.iptr [[vi n]] 0 0] rfl (fun v => !valOk v n) (fun v _ => m_112 v n hn)
  rw [any_not] at q
  have qT : ∀ n', callBy (run AP mt) (.alone true true) 95 [lVal l, .func 112 [.ptr k 0 0]] ⟨n', updO noObj k (some [[vi n]])⟩ = some (.bool (!l.all fun v => valOk v n), ⟨nxt AP mt 95 [lVal l, .func 112 [.iptr [[vi n]] 0 0]] n', updO noObj k (some [[vi n]])⟩) := fun n' =>
    q_T (as := [lVal l, .func 112 [.ptr k 0 0]]) (as' := [lVal l, .func 112 [.iptr [[vi n]] 0 0]]) (G := ⟨n', updO noObj k (some [[vi n]])⟩) (by simp [frzs, frz, omap, updO]) rfl q rfl
  simp [ldA, c_96, qT]
  exact Gv.bool (by repeat (first | exact Nat.le_refl _ | exact Nat.le_succ _ | apply le_nxt)) (by simp)
def toldOk (p : GProg) (h : GHeap) : Bool := inR h.born 1 30 && (h.said.all (fun v => valOk v p.length) && (inR h.code 0 3 && decide ((h.code = 1) ↔ (h.now = -1))))
theorem m_67 (p : GProg) (h : GHeap) (hp : p.length ≤ 1048576) (hs : h.said.length ≤ 1048576) : Q mt 67 [aProg p, vi h.born, lVal h.said, vi h.code, .bool (decide (h.now = -1))] (.bool (toldOk p h)) := by
  refine Q.of rfl (fun k => ?_)
  rw [run_evS AP_67 _ _ rfl]
  have q := fun a b c => r_66 (mt := mt) a b c
  unfold Q at q
  have q95 := m_95 (mt := mt) h.said hs 93 [pP p] rfl (fun v => !valOk v p.length) (fun v _ => m_93 p v hp)
  rw [any_not] at q95
  have qT : ∀ n', callBy (run AP mt) (.alone true true) 95 [lVal h.said, .func 93 [.ptr k 0 0]] ⟨n', updO noObj k (some [[lMethod p]])⟩ = some (.bool (!h.said.all fun v => valOk v p.length), ⟨nxt AP mt 95 [lVal h.said, .func 93 [pP p]] n', updO noObj k (some [[lMethod p]])⟩) := fun n' =>
    q_T (as := [lVal h.said, .func 93 [.ptr k 0 0]]) (as' := [lVal h.said, .func 93 [pP p]]) (G := ⟨n', updO noObj k (some [[lMethod p]])⟩) (by simp [frzs, frz, omap, updO]) rfl q95 rfl
  unfold toldOk
  cases h1 : inR h.born 1 30
  · simp [c_67, q, h1]
    exact Gv.bool (by repeat (first | exact Nat.le_refl _ | exact Nat.le_succ _ | apply le_nxt)) rfl
  cases h2 : h.said.all (fun v => valOk v p.length)
  · simp [c_67, q, h1, qT, h2]
    exact Gv.bool (by repeat (first | exact Nat.le_refl _ | exact Nat.le_succ _ | apply le_nxt)) rfl
  cases h3 : inR h.code 0 3
  · simp [c_67, q, h1, qT, h2, h3]
    exact Gv.bool (by repeat (first | exact Nat.le_refl _ | exact Nat.le_succ _ | apply le_nxt)) rfl
  simp [c_67, q, h1, qT, h2, h3]
  exact Gv.bool (by repeat (first | exact Nat.le_refl _ | exact Nat.le_succ _ | apply le_nxt)) (by by_cases e1 : h.code = 1 <;> by_cases e2 : h.now = -1 <;> simp [e1, e2])
end Go.Ai
