/- DebugBack returns true for every list, index and number, and changes nothing that lay before. No conditions. Part JF. -/
import Derived.Test.YtnlkhnbbkjejkaaGreatDoorRwA
import Derived.JoinedOf
set_option linter.unusedSimpArgs false
set_option linter.unusedVariables false
section
namespace Go.Proofs.YtnlkhnbbkjejkaaGreatDoor
open Go
set_option maxRecDepth 100000
theorem j_l0 : (List.range' 0 300).all (rowFine Tryz.prog) = true := by kernel_rfl
end Go.Proofs.YtnlkhnbbkjejkaaGreatDoor
end
section
namespace Go.Proofs.YtnlkhnbbkjejkaaGreatDoor
open Go
set_option maxRecDepth 100000
theorem j_l1 : (List.range' 300 180).all (rowFine Tryz.prog) = true := by kernel_rfl
end Go.Proofs.YtnlkhnbbkjejkaaGreatDoor
end
section
namespace Go.Proofs.YtnlkhnbbkjejkaaGreatDoor
open Go
set_option maxRecDepth 100000
theorem j_l2 : (List.range' 480 140).all (rowFine Tryz.prog) = true := by kernel_rfl
end Go.Proofs.YtnlkhnbbkjejkaaGreatDoor
end
section
namespace Go.Proofs.YtnlkhnbbkjejkaaGreatDoor
open Go
set_option maxRecDepth 100000
theorem j_l3 : (List.range' 620 140).all (rowFine Tryz.prog) = true := by kernel_rfl
end Go.Proofs.YtnlkhnbbkjejkaaGreatDoor
end
section
namespace Go.Proofs.YtnlkhnbbkjejkaaGreatDoor
open Go
set_option maxRecDepth 100000
theorem j_l4 : (List.range' 760 129).all (rowFine Tryz.prog) = true := by kernel_rfl
end Go.Proofs.YtnlkhnbbkjejkaaGreatDoor
end
