/- DebugBack returns true for every list, index and number, and changes nothing that lay before. No conditions. Part JA. -/
import Derived.Test.YtnlkhnbbkjejkaaGreatDoorRwA
import Derived.JoinedOf
set_option linter.unusedSimpArgs false
set_option linter.unusedVariables false
section
namespace Go.Proofs.YtnlkhnbbkjejkaaGreatDoor
open Go
set_option maxRecDepth 100000
theorem j_k1 : Rows.debugBackRow.wf (OpenSpec.ofChange Rows.debugBackSpec) = true := by kernel_rfl
end Go.Proofs.YtnlkhnbbkjejkaaGreatDoor
end
section
namespace Go.Proofs.YtnlkhnbbkjejkaaGreatDoor
open Go
set_option maxRecDepth 100000
theorem j_k4 : Tryz.f3.params.all (Tryz.prog.readableRec ·) = true := by kernel_rfl
end Go.Proofs.YtnlkhnbbkjejkaaGreatDoor
end
section
namespace Go.Proofs.YtnlkhnbbkjejkaaGreatDoor
open Go
set_option maxRecDepth 100000
theorem j_k5 : namedTie Tryz.prog Rows.debugBackRow.named Rows.debugBackSpec.vars = true := by kernel_rfl
end Go.Proofs.YtnlkhnbbkjejkaaGreatDoor
end
section
namespace Go.Proofs.YtnlkhnbbkjejkaaGreatDoor
open Go
set_option maxRecDepth 100000
theorem j_k6 : (Rows.debugBackRow.stops == []) = true := by kernel_rfl
end Go.Proofs.YtnlkhnbbkjejkaaGreatDoor
end
section
namespace Go.Proofs.YtnlkhnbbkjejkaaGreatDoor
open Go
set_option maxRecDepth 100000
theorem j_k7 : (Tryz.prog.stops == []) = true := by kernel_rfl
end Go.Proofs.YtnlkhnbbkjejkaaGreatDoor
end
section
namespace Go.Proofs.YtnlkhnbbkjejkaaGreatDoor
open Go
set_option maxRecDepth 100000
theorem j_k8 : (Rows.debugBackRow.knobs == []) = true := by kernel_rfl
end Go.Proofs.YtnlkhnbbkjejkaaGreatDoor
end
section
namespace Go.Proofs.YtnlkhnbbkjejkaaGreatDoor
open Go
set_option maxRecDepth 100000
theorem j_k9 : (Tryz.prog.stopKnobs == []) = true := by kernel_rfl
end Go.Proofs.YtnlkhnbbkjejkaaGreatDoor
end
section
namespace Go.Proofs.YtnlkhnbbkjejkaaGreatDoor
open Go
set_option maxRecDepth 100000
theorem j_k14 : (Rows.debugBackRow.maps == (Tryz.f3.params.toList ++ Rows.debugBackSpec.plain.varTypes Tryz.prog).any (Tryz.prog.mapsRec ·)) = true := by kernel_rfl
end Go.Proofs.YtnlkhnbbkjejkaaGreatDoor
end
section
namespace Go.Proofs.YtnlkhnbbkjejkaaGreatDoor
open Go
set_option maxRecDepth 100000
theorem j_k15 : (Rows.debugBackRow.ifaces == (Tryz.f3.params.toList ++ Rows.debugBackSpec.plain.varTypes Tryz.prog).any (Tryz.prog.ifacesRec ·)) = true := by kernel_rfl
end Go.Proofs.YtnlkhnbbkjejkaaGreatDoor
end
section
namespace Go.Proofs.YtnlkhnbbkjejkaaGreatDoor
open Go
set_option maxRecDepth 100000
theorem j_k16 : (Rows.debugBackRow.mapsOut == Tryz.prog.mapsAmong Tryz.f3.resultTypes.toList) = true := by kernel_rfl
end Go.Proofs.YtnlkhnbbkjejkaaGreatDoor
end
section
namespace Go.Proofs.YtnlkhnbbkjejkaaGreatDoor
open Go
set_option maxRecDepth 100000
theorem j_k17 : (Rows.debugBackRow.loops == (Tryz.f3.params.toList ++ Rows.debugBackSpec.plain.varTypes Tryz.prog).any (Tryz.prog.loopsFrom ·)) = true := by kernel_rfl
end Go.Proofs.YtnlkhnbbkjejkaaGreatDoor
end
section
namespace Go.Proofs.YtnlkhnbbkjejkaaGreatDoor
open Go
set_option maxRecDepth 100000
theorem j_k17b : (Rows.debugBackRow.wideKeys == (Tryz.f3.params.toList ++ Rows.debugBackSpec.plain.varTypes Tryz.prog ++ Tryz.f3.resultTypes.toList).any (Tryz.prog.wideKeysFrom ·)) = true := by kernel_rfl
end Go.Proofs.YtnlkhnbbkjejkaaGreatDoor
end
section
namespace Go.Proofs.YtnlkhnbbkjejkaaGreatDoor
open Go
set_option maxRecDepth 100000
theorem j_k18 : Rows.debugBackSpec.vars.all (Tryz.prog.varReadable ·) = true := by kernel_rfl
end Go.Proofs.YtnlkhnbbkjejkaaGreatDoor
end
section
namespace Go.Proofs.YtnlkhnbbkjejkaaGreatDoor
open Go
set_option maxRecDepth 100000
theorem j_k19 : Tryz.f3.resultTypes.all (fun t => Tryz.prog.readableRec t && decide (t < Tryz.prog.types.size)) = true := by kernel_rfl
end Go.Proofs.YtnlkhnbbkjejkaaGreatDoor
end
section
namespace Go.Proofs.YtnlkhnbbkjejkaaGreatDoor
open Go
set_option maxRecDepth 100000
theorem j_k20 : (Rows.debugBackRow.ifacesOut == Tryz.f3.resultTypes.toList.any (Tryz.prog.ifacesRec ·)) = true := by kernel_rfl
end Go.Proofs.YtnlkhnbbkjejkaaGreatDoor
end
section
namespace Go.Proofs.YtnlkhnbbkjejkaaGreatDoor
open Go
set_option maxRecDepth 100000
theorem j_k21 : (Rows.debugBackRow.loopsOut == Tryz.f3.resultTypes.toList.any (Tryz.prog.loopsFrom ·)) = true := by kernel_rfl
end Go.Proofs.YtnlkhnbbkjejkaaGreatDoor
end
section
namespace Go.Proofs.YtnlkhnbbkjejkaaGreatDoor
open Go
set_option maxRecDepth 100000
theorem j_k22 : (Rows.debugBackRow.plainKeys == Tryz.prog.plainKeys) = true := by kernel_rfl
end Go.Proofs.YtnlkhnbbkjejkaaGreatDoor
end
section
namespace Go.Proofs.YtnlkhnbbkjejkaaGreatDoor
open Go
set_option maxRecDepth 100000
theorem j_k23 : Rows.debugBackRow.shortTexts.isNone = true := by kernel_rfl
end Go.Proofs.YtnlkhnbbkjejkaaGreatDoor
end
section
namespace Go.Proofs.YtnlkhnbbkjejkaaGreatDoor
open Go
set_option maxRecDepth 100000
theorem j_k24b : (Rows.debugBackRow.lifted == Tryz.prog.liftsFinal) = true := by kernel_rfl
end Go.Proofs.YtnlkhnbbkjejkaaGreatDoor
end
section
namespace Go.Proofs.YtnlkhnbbkjejkaaGreatDoor
open Go
set_option maxRecDepth 100000
theorem j_k24c : (Tryz.prog.make == some Rows.debugBackRow.make) = true := by kernel_rfl
end Go.Proofs.YtnlkhnbbkjejkaaGreatDoor
end
section
namespace Go.Proofs.YtnlkhnbbkjejkaaGreatDoor
open Go
set_option maxRecDepth 100000
theorem j_k25 : (Rows.debugBackRow.kinds == (if Rows.debugBackRow.domain.isEmpty then [] else Tryz.f3.params.toList.map fun t => match Tryz.prog.underlying t with | some (.int k) => some k | _ => none)) = true := by kernel_rfl
end Go.Proofs.YtnlkhnbbkjejkaaGreatDoor
end
section
namespace Go.Proofs.YtnlkhnbbkjejkaaGreatDoor
open Go
set_option maxRecDepth 100000
theorem j_k26 : (Rows.debugBackRow.pinned == Rows.debugBackRow.pinnedBy) = true := by kernel_rfl
end Go.Proofs.YtnlkhnbbkjejkaaGreatDoor
end
section
namespace Go.Proofs.YtnlkhnbbkjejkaaGreatDoor
open Go
set_option maxRecDepth 100000
theorem j_k27 : (Rows.debugBackRow.veiled == (Tryz.f3.params.toList ++ Rows.debugBackSpec.plain.varTypes Tryz.prog ++ Tryz.f3.resultTypes.toList).any (Tryz.prog.veiledRec ·)) = true := by kernel_rfl
end Go.Proofs.YtnlkhnbbkjejkaaGreatDoor
end
section
namespace Go.Proofs.YtnlkhnbbkjejkaaGreatDoor
open Go
set_option maxRecDepth 100000
theorem j_k28 : Rows.debugBackRow.veiledFits Tryz.prog Tryz.f3.params.toList (Tryz.f3.params.toList ++ Rows.debugBackSpec.plain.varTypes Tryz.prog ++ Tryz.f3.resultTypes.toList) = true := by kernel_rfl
end Go.Proofs.YtnlkhnbbkjejkaaGreatDoor
end
