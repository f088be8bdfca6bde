/- DebugBack returns true for every list, index and number, and changes nothing that lay before. No conditions. Part KB. -/
import Derived.Test.YtnlkhnbbkjejkaaGreatDoorRwA
import Derived.JoinedOf
import Derived.SevenTiedAt
set_option linter.unusedSimpArgs false
set_option linter.unusedVariables false
namespace Go.Proofs.YtnlkhnbbkjejkaaGreatDoor
open Go
set_option maxRecDepth 100000
theorem g_any : Tryz.prog.funcs.any Func.goes = false := by kernel_rfl
end Go.Proofs.YtnlkhnbbkjejkaaGreatDoor
