/- DebugBack returns true for every list, index and number, and changes nothing that lay before. No conditions. Part Run2. -/
import Derived.Test.YtnlkhnbbkjejkaaGreatDoorSB
set_option linter.unusedSimpArgs false
set_option linter.unusedVariables false
namespace Go.Vm
open Go.Proofs
set_option maxRecDepth 100000
noncomputable section
theorem b72000_run : viewK b72000K (runSt F1 24000 b48000F b48000C (layH b48000K b48000O) b48000N) = some (b72000F, b72000C, b72000N, b72000O) := by kernel_rfl
end
end Go.Vm
