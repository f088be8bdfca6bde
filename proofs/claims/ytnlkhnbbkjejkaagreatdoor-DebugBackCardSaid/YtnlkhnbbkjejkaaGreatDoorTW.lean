/- DebugBack returns true for every list, index and number, and changes nothing that lay before. No conditions. Part TW. -/
import Derived.Test.YtnlkhnbbkjejkaaGreatDoorTA
set_option linter.unusedSimpArgs false
set_option linter.unusedVariables false
namespace Go.Proofs.YtnlkhnbbkjejkaaGreatDoor
open Go
set_option maxRecDepth 100000
theorem t_hw : Tryz.prog.worded (varsWordLater true) = true := by kernel_rfl
theorem t_hw2 : Tryz.prog.worded (varsWordLater !true) = false := by kernel_rfl
theorem t_root : Tryz.prog.worded rootWordLater = true := by kernel_rfl
theorem t_hg : (Tryz.prog.funcNamed "gosem.cut.vars").isSome = true := by kernel_rfl
end Go.Proofs.YtnlkhnbbkjejkaaGreatDoor
