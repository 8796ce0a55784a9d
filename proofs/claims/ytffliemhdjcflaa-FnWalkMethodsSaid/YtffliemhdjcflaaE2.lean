/- One goes out of a call till it has returned: plain data. The laws FnWalkOut and FnWalkOutTwice, as runs of the lowered program. -/
import Derived.Test.YtffliemhdjcflaaE1
set_option linter.unusedSimpArgs false
set_option linter.unusedVariables false
namespace Go.Ai
end Go.Ai
set_option linter.unusedSimpArgs false
set_option linter.unusedVariables false
namespace Go.Ai
attribute [local simp] cnd_ite gS_ite callBy_whole
theorem q_at {AP' : Nat → Option AFn} {mt : Nat → Nat → Option Nat} {f : Nat} {as : List AVal} {v : AVal} {k : Nat} (ha : frzs noObj as = some as) (h : Gv k v (run AP' mt f as ⟨k, noObj⟩)) (g : Heap') : callBy (run AP' mt) (.alone false true) f as ⟨k, g⟩ = some (v, ⟨nxt AP' mt f as k, g⟩) := by
  obtain ⟨r, m, g', h1, h2, h3⟩ := h
  exact call_alone ha (prun_of h1 h2 h3)
end Go.Ai
