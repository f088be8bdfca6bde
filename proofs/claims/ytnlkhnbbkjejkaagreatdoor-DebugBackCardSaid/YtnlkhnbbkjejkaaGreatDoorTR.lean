/- DebugBack returns true for every list, index and number, and changes nothing that lay before. No conditions. Part TR. -/
import Derived.Test.YtnlkhnbbkjejkaaGreatDoorTU
set_option linter.unusedSimpArgs false
set_option linter.unusedVariables false
namespace Go.Proofs.YtnlkhnbbkjejkaaGreatDoor
open Go
set_option maxRecDepth 100000
/-- the heap of a run that has returned -/
noncomputable def doneHeap (os : Os) (tape : Tape) : Option (Array Obj) := match runN Tryz.prog 400 (Machine.entering Tryz.prog (litW0 os) tape 762 ⟨#[], #[], []⟩) with
  | .ended (.done _) w => some w.heap
  | _ => none
theorem t_run (os : Os) (tape : Tape) : doneHeap os tape = some (litHeap os) := by kernel_rfl
theorem t_id : varsId Tryz.prog = 762 := by kernel_rfl
theorem t_hd (os : Os) (tape : Tape) : varsDone Tryz.prog 400 (varsId Tryz.prog) os tape = true := by
  have h := t_run os tape
  rw [t_id]
  unfold doneHeap at h
  unfold varsDone
  rw [t_unl]
  split at h
  · rename_i hr; rw [hr]
  · cases h
theorem t_mem (os : Os) (tape : Tape) : (varsWorld Tryz.prog 400 (varsId Tryz.prog) os tape).memory = litMem os := by
  have h := t_run os tape
  rw [t_id]
  unfold doneHeap at h
  unfold varsWorld
  rw [t_unl]
  split at h
  · rename_i hr
    rw [hr]
    have h' := Option.some.inj h
    show World.memory _ = litMem os
    unfold World.memory litMem
    rw [h']
  · cases h
end Go.Proofs.YtnlkhnbbkjejkaaGreatDoor
