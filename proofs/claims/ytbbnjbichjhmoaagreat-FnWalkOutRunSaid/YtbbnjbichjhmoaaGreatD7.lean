/- The law FnExactHeapOut, as a run of the lowered program. The law FnExactHeapOver, as a run of the lowered program. -/
import Derived.Test.YtbbnjbichjhmoaaGreatD6
set_option linter.unusedSimpArgs false
set_option linter.unusedVariables false
namespace Go.Ai
attribute [local simp] cnd_ite gS_ite callBy_whole
theorem dj23 : ∀ s : List Nat, [2, 0] <+: s → ¬ [2, 3] <+: s := by intro s h1 h2; simpa using pre_c (p := []) (i := 2) h1 h2
theorem outB_gv {k : Nat} {A B : List Nat} {h : GHeap} {b : Bool} {x : R} (hr : OutHB k A B h (fun v => .tuple [v, .bool b]) x) : Gv k (.tuple [aHeap h, .bool b]) x := by
  obtain ⟨cv, sv, m, g, ow, h1, h2, h3, h4, h5, h6, h7⟩ := hr
  refine ⟨_, m, g, h1, h2, ?_⟩
  have e1 := h3.frz 6 (by simp [dep])
  have e2 := h4.frz 6 (by simp [dep])
  have ei : ∀ n, frz 6 g (vi n) = some (vi n) := fun _ => rfl
  have eb : frz 7 g (.bool b) = some (.bool b) := rfl
  have ea : frz 7 g (.agg [cv, vi h.now, vi h.born, sv, vi h.code]) = some (aHeap h) := by
    show (omap (frz 6 g) _).map AVal.agg = _
    simp [omap, e1, e2, ei]
  show (omap (frz 7 g) _).map AVal.tuple = _
  simp [omap, ea, eb]
theorem q_173 (p : GProg) (h : GHeap) (most : Int) (hp : ShP p) (hh : ShH h) : Q MT 173 [aProg p, aHeap h, vi most] (.tuple [aHeap (outR p h most).1, .bool (outR p h most).2]) :=
  Q.of rfl (fun k => outB_gv (i_173 p h most hp hh (A := [2, 0]) (B := [2, 3]) dj23 k))
end Go.Ai
set_option linter.unusedSimpArgs false
set_option linter.unusedVariables false
namespace Go.Ai
attribute [local simp] cnd_ite gS_ite callBy_whole

end Go.Ai
