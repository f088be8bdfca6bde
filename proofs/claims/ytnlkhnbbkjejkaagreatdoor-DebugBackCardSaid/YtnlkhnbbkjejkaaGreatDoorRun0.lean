/- DebugBack returns true for every list, index and number, and changes nothing that lay before. No conditions. Part Run0. -/
import Derived.Test.YtnlkhnbbkjejkaaGreatDoorSB
set_option linter.unusedSimpArgs false
set_option linter.unusedVariables false
namespace Go.Vm
open Go.Proofs
set_option maxRecDepth 100000
noncomputable section
theorem b24000_run : viewK b24000K (runSt F1 24000 bStart0F bStart0C (layH bStart0K bStart0O) bStart0N) = some (b24000F, b24000C, b24000N, b24000O) := by kernel_rfl
end
end Go.Vm
