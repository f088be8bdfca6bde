/- DebugBack returns true for every list, index and number, and changes nothing that lay before. No conditions. Part TN. -/
import Derived.Test.YtnlkhnbbkjejkaaGreatDoorTA
set_option linter.unusedSimpArgs false
set_option linter.unusedVariables false
namespace Go.Proofs.YtnlkhnbbkjejkaaGreatDoor
open Go
set_option maxRecDepth 100000
theorem t_hn : varsNamedLaterB Tryz.prog (varsId Tryz.prog) laid8 = true := by kernel_rfl
end Go.Proofs.YtnlkhnbbkjejkaaGreatDoor
