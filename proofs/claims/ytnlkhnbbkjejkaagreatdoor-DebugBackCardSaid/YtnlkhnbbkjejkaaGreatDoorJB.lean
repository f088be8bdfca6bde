/- DebugBack returns true for every list, index and number, and changes nothing that lay before. No conditions. Part JB. -/
import Derived.Test.YtnlkhnbbkjejkaaGreatDoorJE
set_option linter.unusedSimpArgs false
set_option linter.unusedVariables false
namespace Go.Proofs.YtnlkhnbbkjejkaaGreatDoor
open Go
set_option maxRecDepth 100000
def rowedAt (P : Program) (t : Nat) : Bool := match P.underlying t with | some (.map _ e) => decide (e < P.types.size) | _ => true
theorem j_m0 : (List.range' 0 400).all (rowedAt Tryz.prog) = true := by kernel_rfl
theorem j_m1 : (List.range' 400 250).all (rowedAt Tryz.prog) = true := by kernel_rfl
theorem j_m2 : (List.range' 650 239).all (rowedAt Tryz.prog) = true := by kernel_rfl
theorem j_k3 : mapsRowed Tryz.prog = true := by
  show (List.range Tryz.prog.types.size).all (rowedAt Tryz.prog) = true
  refine List.all_eq_true.2 fun t ht => ?_
  rw [List.mem_range, j_types] at ht
  have pick : ∀ a k, (List.range' a k).all (rowedAt Tryz.prog) = true → a ≤ t → t < a + k → rowedAt Tryz.prog t = true := fun a k h h1 h2 =>
    List.all_eq_true.1 h t (List.mem_range'_1.2 ⟨h1, h2⟩)
  by_cases h0 : t < 400
  · exact pick _ _ j_m0 (by omega) (by omega)
  · by_cases h1 : t < 650
    · exact pick _ _ j_m1 (by omega) (by omega)
    · exact pick _ _ j_m2 (by omega) (by omega)
end Go.Proofs.YtnlkhnbbkjejkaaGreatDoor
