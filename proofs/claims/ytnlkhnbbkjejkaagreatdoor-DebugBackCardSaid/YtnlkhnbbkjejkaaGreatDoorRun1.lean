/- DebugBack returns true for every list, index and number, and changes nothing that lay before. No conditions. Part Run1. -/
import Derived.Test.YtnlkhnbbkjejkaaGreatDoorSB
set_option linter.unusedSimpArgs false
set_option linter.unusedVariables false
namespace Go.Vm
open Go.Proofs
set_option maxRecDepth 100000
noncomputable section
theorem b48000_run : viewK b48000K (runSt F1 24000 b24000F b24000C (layH b24000K b24000O) b24000N) = some (b48000F, b48000C, b48000N, b48000O) := by kernel_rfl
end
end Go.Vm
