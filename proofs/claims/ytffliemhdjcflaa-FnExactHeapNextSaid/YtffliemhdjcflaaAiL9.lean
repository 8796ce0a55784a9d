/- The specification's HeapOk and HeapNext. -/
import Derived.Test.YtffliemhdjcflaaAiL8
set_option linter.unusedSimpArgs false
set_option linter.unusedVariables false
namespace Go.Ai
variable {mt : Nat → Nat → Option Nat}
attribute [local simp] cnd_ite gS_ite
def aliveAt (h : GHeap) (x : Int) : Bool := match h.calls[x.toNat]? with | some c => !c.dead | none => false
def tailOk (h : GHeap) (lv : Int) : Bool := (decide (h.now < 0) || aliveAt h h.now) && (decide (((chain h).length : Int) = lv) && waitOk h)
def heapOkS (p : GProg) (h : GHeap) : Bool :=
  progOk p && (inR h.now (-1) (h.calls.length - 1) && (inR h.born 1 30 && (decide ((h.calls.length : Int) ≤ h.born) && (inR h.code 0 3 && (h.said.all (saidOk p) && (decide ((h.code = 1) ↔ (h.now < 0)) &&
    (h.calls.all (fun c => formOk p c h.calls.length) && tailOk h (live' h.calls))))))))
theorem r_25 (p : GProg) (h : GHeap) (hp : ShP p) (hh : ShH h) : Q mt 25 [aProg p, aHeap h] (.bool (heapOkS p h)) := by
  have q := fun a b c => r_55 (mt := mt) a b c
  have qp := r_54 (mt := mt) p hp
  have hpl := hp.l
  have hhl := hh.l
  have hhs := hh.s
  have qs := r_56 (mt := mt) p h.said hp.l (by omega)
  have qc := r_40 (mt := mt) h hh.l
  have qw := r_58 (mt := mt) h hh.l
  unfold Q at q qp qs qc qw
  have hw1 : IntKind.i64.wrap ((h.calls.length : Int) - 1) = h.calls.length - 1 := wrap_id (by omega) (by omega)
  refine Q.of rfl (fun k => ?_)
  rw [run_evS AP_25 _ _ rfl]
  unfold heapOkS
  cases h1 : progOk p
  · simp [c_25, qp, hw1, h1]
    exact Gv.bool (by repeat (first | exact Nat.le_refl _ | apply le_nxt)) rfl
  cases h2 : inR h.now (-1) (h.calls.length - 1)
  · simp [c_25, qp, q, hw1, h1, h2]
    exact Gv.bool (by repeat (first | exact Nat.le_refl _ | apply le_nxt)) rfl
  cases h3 : inR h.born 1 30
  · simp [c_25, qp, q, hw1, h1, h2, h3]
    exact Gv.bool (by repeat (first | exact Nat.le_refl _ | apply le_nxt)) rfl
  by_cases h4 : (h.calls.length : Int) ≤ h.born
  rotate_left
  · have h4' : h.born < (h.calls.length : Int) := by omega
    simp [c_25, qp, q, hw1, h1, h2, h3, h4, h4']
    exact Gv.bool (by repeat (first | exact Nat.le_refl _ | apply le_nxt)) rfl
  have h4' : ¬ h.born < (h.calls.length : Int) := by omega
  cases h5 : inR h.code 0 3
  · simp [c_25, qp, q, hw1, h1, h2, h3, h4, h4', h5]
    exact Gv.bool (by repeat (first | exact Nat.le_refl _ | apply le_nxt)) rfl
  cases h6 : h.said.all (saidOk p)
  · simp [c_25, qp, q, qs, hw1, h1, h2, h3, h4, h4', h5, h6]
    exact Gv.bool (by repeat (first | exact Nat.le_refl _ | apply le_nxt)) rfl
  by_cases h7 : (h.code = 1) ↔ (h.now < 0)
  rotate_left
  · by_cases h8 : h.code = 1 <;> by_cases h9 : h.now < 0 <;> simp only [h8, h9, iff_true, true_iff, iff_self, not_true, not_false_iff, iff_false, false_iff] at h7 <;> try (exact absurd trivial h7)
    all_goals
      simp [c_25, qp, q, qs, hw1, h1, h2, h3, h4, h4', h5, h6, h8, h9]
      exact Gv.bool (by repeat (first | exact Nat.le_refl _ | apply le_nxt)) rfl
  have h7' : (decide (h.code = 1) == decide (h.now < 0)) = true := by simpa using h7
  have key : Gv k (if h.calls.all (fun c => formOk p c h.calls.length) = true then .bool (tailOk h (0 + live' h.calls)) else .bool false) (evS AP mt c_25.body (argFr 0 [aProg p, aHeap h]) ⟨k, noObj⟩ [.fin c_25.res]) := by
    generalize hB : (if h.calls.all (fun c => formOk p c h.calls.length) = true then AVal.bool (tailOk h (0 + live' h.calls)) else AVal.bool false) = B
    simp [c_25, qp, q, qs, hw1, h1, h2, h3, h4, h4', h5, h6, h7, h7']
    rw [← hB]
    refine al_25 (mt := mt) p h hp hh k _ (.bool false) (fun lv => .bool (tailOk h lv)) (fun fr m hm g4 => ?_) (fun lv fr m hm g2 g3 g6 => ?_) h.calls.length 0 _ 0 (by omega) (by repeat (first | exact Nat.le_refl _ | apply le_nxt)) (by omega)
    · simp [g4]
      exact Gv.bool hm rfl
    · have h2' := inR_iff.1 h2
      unfold tailOk
      by_cases e1 : h.now < 0
      · by_cases e2 : ((chain h).length : Int) = lv
        · simp [g2, g3, g6, e1, e2, qc, qw]
          exact Gv.bool (by repeat (first | exact hm | apply le_nxt)) rfl
        · simp [g2, g3, g6, e1, e2, qc, qw]
          exact Gv.bool (by repeat (first | exact hm | apply le_nxt)) rfl
      · obtain ⟨c, hcc⟩ : ∃ c, h.calls[h.now.toNat]? = some c := ⟨_, List.getElem?_eq_getElem (by omega)⟩
        have hix2 := fun g => idx_ok (g := g) (k := .i64) (w_Call h.calls) (show (0:Int) ≤ h.now by omega) (by simp; omega)
        cases e3 : c.dead
        · by_cases e2 : ((chain h).length : Int) = lv
          · simp [g2, g3, g6, e1, e2, e3, qc, qw, hcc, hix2, aliveAt]
            exact Gv.bool (by repeat (first | exact hm | apply le_nxt)) rfl
          · simp [g2, g3, g6, e1, e2, e3, qc, qw, hcc, hix2, aliveAt]
            exact Gv.bool (by repeat (first | exact hm | apply le_nxt)) rfl
        · simp [g2, g3, g6, e1, e3, qc, qw, hcc, hix2, aliveAt]
          exact Gv.bool (by repeat (first | exact hm | apply le_nxt)) rfl
  rw [Int.zero_add] at key
  cases h10 : h.calls.all (fun c => formOk p c h.calls.length)
  · simp only [h10, Bool.false_eq_true, if_false] at key
    simpa [h4, h7] using key
  · simp only [h10, if_true] at key
    simpa [h4, h7] using key
end Go.Ai
