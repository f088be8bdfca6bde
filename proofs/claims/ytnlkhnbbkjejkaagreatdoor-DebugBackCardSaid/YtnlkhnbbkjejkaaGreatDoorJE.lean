/- DebugBack returns true for every list, index and number, and changes nothing that lay before. No conditions. Part JE. -/
import Derived.Test.YtnlkhnbbkjejkaaGreatDoorRwA
import Derived.JoinedOf
set_option linter.unusedSimpArgs false
set_option linter.unusedVariables false
namespace Go.Proofs.YtnlkhnbbkjejkaaGreatDoor
open Go
set_option maxRecDepth 100000
theorem j_types : Tryz.prog.types.size = 889 := by kernel_rfl
theorem j_lg : Tryz.prog.globals.all (fun g => decide (g.type < Tryz.prog.types.size)) = true := by kernel_rfl
theorem j_lf : Tryz.prog.funcs.all (fun f => f.params.all fun t => decide (t < Tryz.prog.types.size)) = true := by kernel_rfl
end Go.Proofs.YtnlkhnbbkjejkaaGreatDoor
