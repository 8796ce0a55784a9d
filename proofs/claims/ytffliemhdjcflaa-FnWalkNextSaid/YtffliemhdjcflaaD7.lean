/- The law FnExactHeapOut, as a run of the lowered program. -/
import Derived.Test.YtffliemhdjcflaaD6
set_option linter.unusedSimpArgs false
set_option linter.unusedVariables false
namespace Go.Ai
attribute [local simp] cnd_ite gS_ite callBy_whole
end Go.Ai
