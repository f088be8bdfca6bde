/- DebugBack returns true for every list, index and number, and changes nothing that lay before. No conditions. Part TP. -/
import Derived.Test.YtnlkhnbbkjejkaaGreatDoorTA
set_option linter.unusedSimpArgs false
set_option linter.unusedVariables false
namespace Go.Proofs.YtnlkhnbbkjejkaaGreatDoor
open Go
set_option maxRecDepth 100000
theorem pin_first : Tryz.pinned.checked.prog.pinnedFits "unicode/utf8.first" = true := by kernel_rfl
end Go.Proofs.YtnlkhnbbkjejkaaGreatDoor
