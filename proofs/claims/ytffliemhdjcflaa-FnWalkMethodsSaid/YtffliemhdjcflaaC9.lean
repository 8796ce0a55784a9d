/- Bytes are read as such. -/
import Derived.Test.YtffliemhdjcflaaC8
import Derived.Test.YtffliemhdjcflaaD8
set_option linter.unusedSimpArgs false
set_option linter.unusedVariables false
namespace Go.Ai
open Go.ChangeShapes Go.WideShapes Go.Deep
variable {M : SM} {w : World}
theorem reads_u8 {t : TypeId} (ht : M.P.underlying t = some (.int .u8)) : Reads M w t eB (fun x => x < 256) := by
  intro H enc base spare held fuel cs x h
  obtain ⟨n, rfl, _, hw⟩ := DataW.trod_int ht h
  have hb : 0 ≤ n ∧ n < 256 := by
    have h1 : IntKind.u8.min = 0 := by decide
    have h2 : IntKind.u8.max = 255 := by decide
    simp only [Lit.wf, h1, h2, Bool.and_eq_true, decide_eq_true_eq] at hw
    omega
  refine ⟨n.toNat, by omega, rfl, fun i u v hu hv => ?_⟩
  cases i with
  | zero =>
    simp at hu hv
    subst hu hv
    rw [show max n 0 = n by omega]
    exact ⟨.int .u8 n, rfl⟩
  | succ i => simp at hu
end Go.Ai
