/- DebugBack returns true for every list, index and number, and changes nothing that lay before. No conditions. Part ClB. -/
import Derived.Test.YtnlkhnbbkjejkaaGreatDoorClA
set_option linter.unusedSimpArgs false
set_option linter.unusedVariables false
section
namespace Go.Proofs.YtnlkhnbbkjejkaaGreatDoor
open Go
set_option maxRecDepth 100000
def gl0 : List Nat := [2, 2, 2, 2, 5]
theorem gl_0 : reL0.flatMap (fun g => ((Tryz.prog.funcs[g]?).bind (·.body)).elim [] Code.globalsNamed) = gl0 := by kernel_rfl
theorem ip_0 : reL0.filterMap (fun g => (Tryz.prog.funcs[g]?).bind fun fn => if fn.ours || fn.body.isNone || fn.name == "runtime.NumGoroutine" then some fn.name else none) = [] := by kernel_rfl
theorem rd_0 : reL0.filterMap (fun g => (Tryz.prog.funcs[g]?).bind fun fn => if fn.body.isNone then entryReads.lookup fn.name else none) = [] := by kernel_rfl
end Go.Proofs.YtnlkhnbbkjejkaaGreatDoor
end
section
namespace Go.Proofs.YtnlkhnbbkjejkaaGreatDoor
open Go
set_option maxRecDepth 100000
def gl1 : List Nat := [3, 6, 7, 8, 9]
theorem gl_1 : reL1.flatMap (fun g => ((Tryz.prog.funcs[g]?).bind (·.body)).elim [] Code.globalsNamed) = gl1 := by kernel_rfl
theorem ip_1 : reL1.filterMap (fun g => (Tryz.prog.funcs[g]?).bind fun fn => if fn.ours || fn.body.isNone || fn.name == "runtime.NumGoroutine" then some fn.name else none) = [] := by kernel_rfl
theorem rd_1 : reL1.filterMap (fun g => (Tryz.prog.funcs[g]?).bind fun fn => if fn.body.isNone then entryReads.lookup fn.name else none) = [] := by kernel_rfl
end Go.Proofs.YtnlkhnbbkjejkaaGreatDoor
end
section
namespace Go.Proofs.YtnlkhnbbkjejkaaGreatDoor
open Go
set_option maxRecDepth 100000
def gl2 : List Nat := []
theorem gl_2 : reL2.flatMap (fun g => ((Tryz.prog.funcs[g]?).bind (·.body)).elim [] Code.globalsNamed) = gl2 := by kernel_rfl
theorem ip_2 : reL2.filterMap (fun g => (Tryz.prog.funcs[g]?).bind fun fn => if fn.ours || fn.body.isNone || fn.name == "runtime.NumGoroutine" then some fn.name else none) = ["internal/bytealg.IndexByteString", "internal/bytealg.IndexString", "internal/abi.NoEscape", "internal/bytealg.MakeNoZero"] := by kernel_rfl
theorem rd_2 : reL2.filterMap (fun g => (Tryz.prog.funcs[g]?).bind fun fn => if fn.body.isNone then entryReads.lookup fn.name else none) = ["internal/bytealg.MaxLen"] := by kernel_rfl
end Go.Proofs.YtnlkhnbbkjejkaaGreatDoor
end
