/- The program's HeapNext; the law. -/
import Derived.Test.YtffliemhdjcflaaAiM7
set_option linter.unusedSimpArgs false
set_option linter.unusedVariables false
namespace Go.Ai
variable {mt : Nat → Nat → Option Nat}
attribute [local simp] cnd_ite gS_ite
theorem m_36 (p : GProg) (mi pc : Int) (m : GMethod) (hm0 : 0 ≤ mi ∧ mi < p.length) (hm : p[mi.toNat]? = some m) (hpc : 0 ≤ pc) (hml : m.ops.length ≤ 1048576) : Q mt 36 [aProg p, vi mi, vi pc] (match m.ops[pc.toNat]? with | some o => aRes o true | none => aRes o0 false) := by
  have hix := fun g => idx_ok (g := g) (k := .i64) (w_Method p) (show (0:Int) ≤ mi by omega) (by simp; omega)
  have q := fun a b c => r_66 (mt := mt) a b c
  unfold Q at q
  have hw : IntKind.i64.wrap ((m.ops.length : Int) - 1) = m.ops.length - 1 := wrap_id (by omega) (by omega)
  refine Q.of rfl (fun k => ?_)
  rw [run_evS AP_36 _ _ rfl]
  by_cases h : pc < m.ops.length
  · obtain ⟨o, ho⟩ : ∃ o, m.ops[pc.toNat]? = some o := ⟨_, List.getElem?_eq_getElem (by omega)⟩
    have hix2 := fun g => idx_ok (g := g) (k := .i64) (w_Op m.ops) hpc (by simp; omega)
    have h' : inR pc 0 (m.ops.length - 1) = true := inR_iff.2 ⟨hpc, by omega⟩
    rw [ho]
    simp [c_36, hix, hix2, hm, ho, hw, q, h']
    exact Gv.some (by repeat (first | exact Nat.le_refl _ | apply le_nxt)) (by simp [frz, omap])
  · have h' : inR pc 0 (m.ops.length - 1) = false := by
      cases e : inR pc 0 (m.ops.length - 1)
      · rfl
      · have := inR_iff.1 e; omega
    have ho : m.ops[pc.toNat]? = none := List.getElem?_eq_none (by omega)
    rw [ho]
    simp [c_36, hix, hm, hw, q, h', o0]
    exact Gv.some (by repeat (first | exact Nat.le_refl _ | apply le_nxt)) (by simp [frz, omap])
theorem m_9 (p : GProg) (h : GHeap) (hp : ShP p) (hh : ShH h) : Q mt 9 [aProg p, aHeap h] (nextR p h) := by
  have q := m_35 (mt := mt) p h hp hh
  rw [heapOk_eq] at q
  unfold Q at q
  refine Q.of rfl (fun k => ?_)
  rw [run_evS AP_9 _ _ rfl]
  by_cases h1 : heapOkS p h = true
  rotate_left
  · have h1' : heapOkS p h = false := by simpa using h1
    simp [c_9, q, h1', nextR, o0]
    exact Gv.some (by repeat (first | exact Nat.le_refl _ | apply le_nxt)) (by simp [frz, omap])
  by_cases h2 : h.code = 0
  rotate_left
  · simp [c_9, q, h1, h2, nextR, o0]
    exact Gv.some (by repeat (first | exact Nat.le_refl _ | apply le_nxt)) (by simp [frz, omap])
  obtain ⟨c, m, hr⟩ := runs_of h1 h2
  have h2' : (h.code = 0) = True := eq_true h2
  have hix := fun g => idx_ok (g := g) (k := .i64) (w_Call h.calls) hr.h0 (by simp; exact hr.h1)
  have q2 := m_36 (mt := mt) p c.method c.pc m ⟨hr.m0, hr.m1⟩ hr.hm hr.pc0 (by have := hp.m m (List.mem_of_getElem? hr.hm); omega)
  unfold Q at q2
  have hcc := hr.hc
  have hmm := hr.hm
  cases ho : m.ops[c.pc.toNat]? with
  | none =>
    simp only [ho] at q2
    simp [c_9, q, h1, h2', nextR, hix, hcc, hmm, q2, ho, o0]
    exact Gv.some (by repeat (first | exact Nat.le_refl _ | apply le_nxt)) (by simp [frz, omap])
  | some o =>
    simp only [ho] at q2
    simp [c_9, q, h1, h2', nextR, hix, hcc, hmm, q2, ho]
    exact Gv.some (by repeat (first | exact Nat.le_refl _ | apply le_nxt)) (by simp [frz, omap])
end Go.Ai
