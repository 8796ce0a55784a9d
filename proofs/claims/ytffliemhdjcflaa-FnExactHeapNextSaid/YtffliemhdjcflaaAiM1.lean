/- The program's manners and its tests of operations. -/
import Derived.Test.YtffliemhdjcflaaAiL10
set_option linter.unusedSimpArgs false
set_option linter.unusedVariables false
namespace Go.Ai
variable {mt : Nat → Nat → Option Nat}
attribute [local simp] cnd_ite gS_ite
theorem m_134 (x : Int) : Q mt 134 [vi x] (.func 135 [.iptr [[vi x]] 0 0]) := by
  refine Q.of rfl (fun k => ?_)
  rw [run_evS AP_134 _ _ rfl]
  simp [c_134]
  exact Gv.some (Nat.le_succ _) (by simp [frz, omap, updO])
theorem m_135 (p : GProg) (m : GMethod) (x : Int) : Q mt 135 [aProg p, aMethod m, .iptr [[vi x]] 0 0] (vi x) := by
  refine Q.of rfl (fun k => ?_)
  rw [run_evS AP_135 _ _ rfl]
  simp [c_135]
  exact Gv.some (Nat.le_refl _) (by simp [frz])
theorem m_136 (p : GProg) (m : GMethod) : Q mt 136 [aProg p, aMethod m] (vi m.temps) := by
  refine Q.of rfl (fun k => ?_)
  rw [run_evS AP_136 _ _ rfl]
  simp [c_136]
  exact Gv.some (Nat.le_refl _) (by simp [frz])
theorem m_137 (p : GProg) (m : GMethod) : Q mt 137 [aProg p, aMethod m] (vi m.ops.length) := by
  refine Q.of rfl (fun k => ?_)
  rw [run_evS AP_137 _ _ rfl]
  simp [c_137]
  exact Gv.some (Nat.le_refl _) (by simp [frz])
theorem m_138 (p : GProg) (m : GMethod) : Q mt 138 [aProg p, aMethod m] (vi p.length) := by
  refine Q.of rfl (fun k => ?_)
  rw [run_evS AP_138 _ _ rfl]
  simp [c_138]
  exact Gv.some (Nat.le_refl _) (by simp [frz])
def mLit (x : Int) : AVal := .func 135 [.iptr [[vi x]] 0 0]
def mOf (k : Int) : AVal :=
  if k = 1 then mLit 100 else if k = 2 ∨ k = 3 then .func 136 [] else if k = 7 ∨ k = 8 then .func 137 [] else if k = 9 then .func 138 [] else if k = 13 ∨ k = 14 then mLit 4 else .nilf
/-- The table. Read off the lowered code by a program of this claim (gen_mt.py). -/
def mT : Obj' := [[.str ⟨#[]⟩, .int .i64 0, .int .i64 0, .nils, .nilf],
    [.str ⟨#[110, 117, 109]⟩, .int .i64 0, .int .i64 1, .nils, .func 135 [.iptr [[.int .i64 100]] 0 0]],
    [.str ⟨#[116, 101, 109, 112]⟩, .int .i64 0, .int .i64 1, .nils, .func 136 []],
    [.str ⟨#[115, 101, 116]⟩, .int .i64 1, .int .i64 0, .list [[.int .i64 (-1)]], .func 136 []],
    [.str ⟨#[100, 114, 111, 112]⟩, .int .i64 1, .int .i64 0, .list [[.int .i64 (-1)]], .nilf],
    [.str ⟨#[97, 100, 100]⟩, .int .i64 2, .int .i64 1, .list [[.int .i64 1], [.int .i64 1]], .nilf],
    [.str ⟨#[115, 97, 109, 101]⟩, .int .i64 2, .int .i64 1, .list [[.int .i64 (-1)], [.int .i64 (-1)]], .nilf],
    [.str ⟨#[106, 117, 109, 112]⟩, .int .i64 0, .int .i64 0, .nils, .func 137 []],
    [.str ⟨#[122, 101, 114, 111]⟩, .int .i64 1, .int .i64 0, .list [[.int .i64 (-1)]], .func 137 []],
    [.str ⟨#[99, 97, 108, 108]⟩, .int .i64 0, .int .i64 1, .nils, .func 138 []],
    [.str ⟨#[114, 101, 116]⟩, .int .i64 1, .int .i64 0, .list [[.int .i64 (-1)]], .nilf],
    [.str ⟨#[104, 101, 114, 101]⟩, .int .i64 0, .int .i64 1, .nils, .nilf],
    [.str ⟨#[115, 101, 110, 100, 101, 114]⟩, .int .i64 1, .int .i64 1, .list [[.int .i64 2]], .nilf],
    [.str ⟨#[112, 101, 101, 107]⟩, .int .i64 1, .int .i64 1, .list [[.int .i64 2]], .func 135 [.iptr [[.int .i64 4]] 0 0]],
    [.str ⟨#[112, 111, 107, 101]⟩, .int .i64 2, .int .i64 0, .list [[.int .i64 2], [.int .i64 (-1)]], .func 135 [.iptr [[.int .i64 4]] 0 0]],
    [.str ⟨#[98, 97, 99, 107]⟩, .int .i64 2, .int .i64 1, .list [[.int .i64 2], [.int .i64 (-1)]], .nilf],
    [.str ⟨#[115, 97, 121]⟩, .int .i64 1, .int .i64 0, .list [[.int .i64 (-1)]], .nilf],
    [.str ⟨#[100, 101, 97, 100]⟩, .int .i64 1, .int .i64 1, .list [[.int .i64 2]], .nilf],
    [.str ⟨#[119, 104, 101, 114, 101]⟩, .int .i64 1, .int .i64 1, .list [[.int .i64 2]], .nilf]]
theorem m_122 : Q mt 122 [] (.list mT) := by
  have q := fun x => m_134 (mt := mt) x
  unfold Q at q
  refine Q.of rfl (fun k => ?_)
  rw [run_evS AP_122 _ _ rfl]
  simp [c_122, q]
  exact Gv.some (by repeat (first | exact Nat.le_refl _ | apply le_nxt)) rfl
theorem mT_at (k : Int) (h : 1 ≤ k ∧ k ≤ 18) : ∃ a b c d, mT[k.toNat]? = some [.str a, b, c, d, mOf k] := by
  obtain ⟨n, rfl⟩ : ∃ n : Nat, k = n := ⟨k.toNat, by omega⟩
  simp only [Int.toNat_natCast]
  have : n = 1 ∨ n = 2 ∨ n = 3 ∨ n = 4 ∨ n = 5 ∨ n = 6 ∨ n = 7 ∨ n = 8 ∨ n = 9 ∨ n = 10 ∨ n = 11 ∨ n = 12 ∨ n = 13 ∨ n = 14 ∨ n = 15 ∨ n = 16 ∨ n = 17 ∨ n = 18 := by omega
  rcases this with h | h | h | h | h | h | h | h | h | h | h | h | h | h | h | h | h | h <;> subst h <;> exact ⟨_, _, _, _, rfl⟩
theorem w_mT : ∀ e ∈ mT, e.length = 5 := by simp [mT]
end Go.Ai
