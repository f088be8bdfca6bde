/- DebugBack returns true for every list, index and number, and changes nothing that lay before. No conditions. Part JC. -/
import Derived.Test.YtnlkhnbbkjejkaaGreatDoorRwA
import Derived.JoinedOf
set_option linter.unusedSimpArgs false
set_option linter.unusedVariables false
namespace Go.Proofs.YtnlkhnbbkjejkaaGreatDoor
open Go
set_option maxRecDepth 100000
theorem j_k23b : Tryz.prog.stopsHeard = true := by kernel_rfl
end Go.Proofs.YtnlkhnbbkjejkaaGreatDoor
