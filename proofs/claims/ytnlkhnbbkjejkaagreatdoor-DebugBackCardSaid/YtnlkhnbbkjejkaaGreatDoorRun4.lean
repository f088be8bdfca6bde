/- DebugBack returns true for every list, index and number, and changes nothing that lay before. No conditions. Part Run4. -/
import Derived.Test.YtnlkhnbbkjejkaaGreatDoorSC
set_option linter.unusedSimpArgs false
set_option linter.unusedVariables false
namespace Go.Vm
open Go.Proofs
set_option maxRecDepth 100000
noncomputable section
theorem b120000_run : viewK b120000K (runSt F1 24000 b96000F b96000C (layH b96000K b96000O) b96000N) = some (b120000F, b120000C, b120000N, b120000O) := by kernel_rfl
end
end Go.Vm
