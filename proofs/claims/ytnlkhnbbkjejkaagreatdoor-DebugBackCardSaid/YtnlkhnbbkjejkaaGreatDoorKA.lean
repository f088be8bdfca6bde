/- DebugBack returns true for every list, index and number, and changes nothing that lay before. No conditions. Part KA. -/
import Derived.Test.YtnlkhnbbkjejkaaGreatDoorRwA
import Derived.JoinedOf
import Derived.SevenTiedAt
set_option linter.unusedSimpArgs false
set_option linter.unusedVariables false
namespace Go.Proofs.YtnlkhnbbkjejkaaGreatDoor
open Go
set_option maxRecDepth 100000
theorem c_wf : Rows.debugBackRow.wfByText (OpenSpec.ofChange Rows.debugBackSpec) = true := by kernel_rfl
theorem c_main : Tryz.prog.mainIs = some (true, "b9d221a5538467b49d49f59b921574df3bfd342ab03e579db9dd30a506440e57".toList) := by kernel_rfl
theorem c_fn : Tryz.prog.funcNamed "manorboy/manorboylaw27.DebugBack" = some 3 := by kernel_rfl
theorem c_stand : ([22, 3, 3].all fun u => !Tryz.prog.wantsStandIn u) = true := by kernel_rfl
end Go.Proofs.YtnlkhnbbkjejkaaGreatDoor
