/- DebugBack returns true for every list, index and number, and changes nothing that lay before. No conditions. Part RunA. -/
import Derived.Test.YtnlkhnbbkjejkaaGreatDoorSA
set_option linter.unusedSimpArgs false
set_option linter.unusedVariables false
section
namespace Go.Vm
open Go.Proofs
set_option maxRecDepth 100000
noncomputable section
theorem a45000_run : viewK a45000K (runSt F1 15000 a30000F a30000C (layH a30000K a30000O) a30000N) = some (a45000F, a45000C, a45000N, a45000O) := by kernel_rfl
end
end Go.Vm
end
section
namespace Go.Vm
open Go.Proofs
set_option maxRecDepth 100000
noncomputable section
theorem aEnd66740_run : viewK aEnd66740K (runSt F1 6740 a60000F a60000C (layH a60000K a60000O) a60000N) = some (aEnd66740F, aEnd66740C, aEnd66740N, aEnd66740O) := by kernel_rfl
end
end Go.Vm
end
