/- DebugBack returns true for every list, index and number, and changes nothing that lay before. No conditions. Part RunW. -/
import Derived.Test.YtnlkhnbbkjejkaaGreatDoorSW
import Derived.Test.YtnlkhnbbkjejkaaGreatDoorSA
set_option linter.unusedSimpArgs false
set_option linter.unusedVariables false
section
namespace Go.Vm
open Go.Proofs
set_option maxRecDepth 100000
noncomputable section
def w0F : AFrame := match enterA E0.P 412 [] false with
  | some fr => fr
  | none => default
theorem w_run : viewK wK (runSt F0 2376 w0F [] spaceH (nk 18)) = some (wF, wC, wN, wO) := by kernel_rfl
end
end Go.Vm
end
section
namespace Go.Vm
open Go.Proofs
set_option maxRecDepth 100000
noncomputable section
def a0F : AFrame := match enterA E1.P 4 [] false with
  | some fr => fr
  | none => default
theorem a15000_run : viewK a15000K (runSt F1 15000 a0F [] spaceH (nk 18)) = some (a15000F, a15000C, a15000N, a15000O) := by kernel_rfl
end
end Go.Vm
end
section
namespace Go.Vm
open Go.Proofs
set_option maxRecDepth 100000
noncomputable section
theorem a30000_run : viewK a30000K (runSt F1 15000 a15000F a15000C (layH a15000K a15000O) a15000N) = some (a30000F, a30000C, a30000N, a30000O) := by kernel_rfl
end
end Go.Vm
end
