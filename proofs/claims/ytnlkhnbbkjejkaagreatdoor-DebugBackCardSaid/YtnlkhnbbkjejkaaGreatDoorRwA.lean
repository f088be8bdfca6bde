/- DebugBack returns true for every list, index and number, and changes nothing that lay before. No conditions. Part RwA. -/
import Derived.Test.YtnlkhnbbkjejkaaGreatDoorRows
import Derived.ProofKit
import Derived.Lay
import Derived.Handed
set_option linter.unusedSimpArgs false
set_option linter.unusedVariables false
section
namespace Go.Proofs.YtnlkhnbbkjejkaaGreatDoor
open Go
/-- the witness's arguments -/
def wArgs : Array Value := #[.slice none 0 0, .int .i64 0, .int .i64 0]
noncomputable def wLaid (os : Os) : World := World.laidAll Tryz.prog os Rows.debugBackRow.laid
noncomputable def wAt (os : Os) : World := (wLaid os).forCall (fun _ _ => 0) ⟨#[], wArgs, []⟩
end Go.Proofs.YtnlkhnbbkjejkaaGreatDoor
end
section
namespace Go.Proofs.YtnlkhnbbkjejkaaGreatDoor
open Go
set_option maxRecDepth 100000
theorem r_own : ownKnob Tryz.prog.godebug = none := by kernel_rfl
theorem r_cells29 : Tryz.prog.cellsOf 29 = 4 := by kernel_rfl
theorem r_cells3 : Tryz.prog.cellsOf 3 = 1 := by kernel_rfl
theorem r_read22 : Tryz.prog.readableRec 22 = true := by kernel_rfl
theorem r_row22 : 22 < Tryz.prog.types.size := of_decide_eq_true (by kernel_rfl)
theorem r_read3 : Tryz.prog.readableRec 3 = true := by kernel_rfl
theorem r_row3 : 3 < Tryz.prog.types.size := of_decide_eq_true (by kernel_rfl)
theorem r_noInit : Tryz.prog.inits.idxOf? 3 = none := by kernel_rfl
end Go.Proofs.YtnlkhnbbkjejkaaGreatDoor
end
section
namespace Go.Proofs.YtnlkhnbbkjejkaaGreatDoor
open Go
set_option maxRecDepth 100000
theorem r_w1 (os : Os) : (wAt os).variablesZipB Tryz.prog = true := by kernel_rfl
end Go.Proofs.YtnlkhnbbkjejkaaGreatDoor
end
section
namespace Go.Proofs.YtnlkhnbbkjejkaaGreatDoor
open Go
set_option maxRecDepth 100000
theorem r_w2 (os : Os) : ((wAt os).heap.toList.drop Tryz.prog.globals.size).take ((begin Tryz.prog (fun _ _ => 0) default).world.heap.size - Tryz.prog.globals.size) = (begin Tryz.prog (fun _ _ => 0) default).world.heap.toList.drop Tryz.prog.globals.size := by kernel_rfl
end Go.Proofs.YtnlkhnbbkjejkaaGreatDoor
end
section
namespace Go.Proofs.YtnlkhnbbkjejkaaGreatDoor
open Go
set_option maxRecDepth 100000
theorem r_w3 (os : Os) : Input.okWideB Tryz.prog (wAt os) 3 ⟨#[], wArgs, []⟩ = true := by kernel_rfl
end Go.Proofs.YtnlkhnbbkjejkaaGreatDoor
end
section
namespace Go.Proofs.YtnlkhnbbkjejkaaGreatDoor
open Go
set_option maxRecDepth 100000
theorem r_w4 {H : Type} (enc : TypeId × Value → H) (os : Os) : Rows.debugBackSpec.preB enc Tryz.prog Tryz.f3 [] false (wAt os).memory wArgs 8 = true := by kernel_rfl
theorem r_w5 {H : Type} (enc : TypeId × Value → H) (os : Os) : Rows.debugBackSpec.sizedB enc Tryz.prog Tryz.f3 false (wAt os).memory wArgs 8 = true := by kernel_rfl
end Go.Proofs.YtnlkhnbbkjejkaaGreatDoor
end
section
namespace Go.Proofs.YtnlkhnbbkjejkaaGreatDoor
open Go
set_option maxRecDepth 100000
theorem r_w6 (os : Os) : (World.holding Tryz.prog os ⟨#[], #[], []⟩).layFits Tryz.prog Rows.debugBackRow.laid [] = true := by kernel_rfl
end Go.Proofs.YtnlkhnbbkjejkaaGreatDoor
end
section
namespace Go.Proofs.YtnlkhnbbkjejkaaGreatDoor
open Go
set_option maxRecDepth 100000
theorem r_w7 (os : Os) : (World.holding Tryz.prog os ⟨#[], #[], []⟩).layIfaces Tryz.prog Rows.debugBackRow.laid (wLaid os) = true := by kernel_rfl
end Go.Proofs.YtnlkhnbbkjejkaaGreatDoor
end
