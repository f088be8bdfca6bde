/- DebugBack returns true for every list, index and number, and changes nothing that lay before. No conditions. Part Run5. -/
import Derived.Test.YtnlkhnbbkjejkaaGreatDoorSC
set_option linter.unusedSimpArgs false
set_option linter.unusedVariables false
namespace Go.Vm
open Go.Proofs
set_option maxRecDepth 100000
noncomputable section
theorem b144000_run : viewK b144000K (runSt F1 24000 b120000F b120000C (layH b120000K b120000O) b120000N) = some (b144000F, b144000C, b144000N, b144000O) := by kernel_rfl
end
end Go.Vm
