/- DebugBack returns true for every list, index and number, and changes nothing that lay before. No conditions. Part Run7. -/
import Derived.Test.YtnlkhnbbkjejkaaGreatDoorSC
set_option linter.unusedSimpArgs false
set_option linter.unusedVariables false
namespace Go.Vm
open Go.Proofs
set_option maxRecDepth 100000
noncomputable section
theorem bEnd191640_run : viewK bEnd191640K (runSt F1 23640 b168000F b168000C (layH b168000K b168000O) b168000N) = some (bEnd191640F, bEnd191640C, bEnd191640N, bEnd191640O) := by kernel_rfl
end
end Go.Vm
