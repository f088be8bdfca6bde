/- DebugBack returns true for every list, index and number, and changes nothing that lay before. No conditions. Part Run6. -/
import Derived.Test.YtnlkhnbbkjejkaaGreatDoorSC
set_option linter.unusedSimpArgs false
set_option linter.unusedVariables false
namespace Go.Vm
open Go.Proofs
set_option maxRecDepth 100000
noncomputable section
theorem b168000_run : viewK b168000K (runSt F1 24000 b144000F b144000C (layH b144000K b144000O) b144000N) = some (b168000F, b168000C, b168000N, b168000O) := by kernel_rfl
end
end Go.Vm
