/- DebugBack returns true for every list, index and number, and changes nothing that lay before. No conditions. Part RunB. -/
import Derived.Test.YtnlkhnbbkjejkaaGreatDoorSA
set_option linter.unusedSimpArgs false
set_option linter.unusedVariables false
namespace Go.Vm
open Go.Proofs
set_option maxRecDepth 100000
noncomputable section
theorem a60000_run : viewK a60000K (runSt F1 15000 a45000F a45000C (layH a45000K a45000O) a45000N) = some (a60000F, a60000C, a60000N, a60000O) := by kernel_rfl
end
end Go.Vm
