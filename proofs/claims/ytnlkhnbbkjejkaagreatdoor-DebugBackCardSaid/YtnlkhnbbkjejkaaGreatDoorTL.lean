/- DebugBack returns true for every list, index and number, and changes nothing that lay before. No conditions. Part TL. -/
import Derived.Test.YtnlkhnbbkjejkaaGreatDoorTA
set_option linter.unusedSimpArgs false
set_option linter.unusedVariables false
namespace Go.Proofs.YtnlkhnbbkjejkaaGreatDoor
open Go
set_option maxRecDepth 100000
theorem t_h1' (os : Os) : (DataW.laidRun Tryz.prog (litMem os) 8 (laid8.map (·.1))).map (·.1) = some laid8 := by kernel_rfl
theorem t_h2' (os : Os) : (DataW.laidRun Tryz.prog (litMem os) 8 (laid8.map (·.1))).map (fun x => decide x.2.Nodup && laidRowsB Tryz.prog (litMem os) x.2) = some true := by kernel_rfl
end Go.Proofs.YtnlkhnbbkjejkaaGreatDoor
