/- DebugBack returns true for every list, index and number, and changes nothing that lay before. No conditions. Part Run3. -/
import Derived.Test.YtnlkhnbbkjejkaaGreatDoorSB
import Derived.Test.YtnlkhnbbkjejkaaGreatDoorSC
set_option linter.unusedSimpArgs false
set_option linter.unusedVariables false
namespace Go.Vm
open Go.Proofs
set_option maxRecDepth 100000
noncomputable section
theorem b96000_run : viewK b96000K (runSt F1 24000 b72000F b72000C (layH b72000K b72000O) b72000N) = some (b96000F, b96000C, b96000N, b96000O) := by kernel_rfl
end
end Go.Vm
