/- DebugBack returns true for every list, index and number, and changes nothing that lay before. No conditions. Part KC. -/
import Derived.Test.YtnlkhnbbkjejkaaGreatDoorKB
import Derived.Test.YtnlkhnbbkjejkaaGreatDoorRwA
import Derived.JoinedOf
import Derived.SevenTiedAt
set_option linter.unusedSimpArgs false
set_option linter.unusedVariables false
section
namespace Go.Proofs.YtnlkhnbbkjejkaaGreatDoor
open Go
theorem g_at (g : Nat) : (Tryz.prog.funcs[g]?).any Func.goes = false := by
  cases h : Tryz.prog.funcs[g]? with
  | none => rfl
  | some fn =>
    have hm : fn ∈ Tryz.prog.funcs := Array.mem_of_getElem? h
    have := g_any
    rw [Array.any_eq_false'] at this
    simpa using this fn hm
theorem g_goes (f : Nat) : Tryz.prog.goes f = false := by
  unfold Program.goes
  rw [g_any, Bool.and_false, Bool.or_false]
  exact List.any_eq_false.2 fun g _ => by rw [g_at g]; simp
theorem c_goes : false = Rows.debugBackRow.goesBy Tryz.prog := by
  have hs : Rows.debugBackRow.start = .entering := rfl
  unfold OpenClaim.goesBy Program.goesAt Program.goesFrom
  rw [hs]
  cases h : Tryz.prog.funcNamed Rows.debugBackRow.func with
  | none => rfl
  | some f => simp [g_goes f]
end Go.Proofs.YtnlkhnbbkjejkaaGreatDoor
end
section
namespace Go.Proofs.YtnlkhnbbkjejkaaGreatDoor
open Go
set_option maxRecDepth 100000
theorem c_looks : true = Tryz.prog.looks [] := by kernel_rfl
end Go.Proofs.YtnlkhnbbkjejkaaGreatDoor
end
section
namespace Go.Proofs.YtnlkhnbbkjejkaaGreatDoor
open Go
set_option maxRecDepth 100000
theorem c_inst : Tryz.f3.isInstance Tryz.prog Rows.debugBackRow.origin Rows.debugBackRow.targs := of_decide_eq_true (by kernel_rfl)
theorem c_wrap : Tryz.f3.isWrapper Tryz.prog Rows.debugBackRow.wrapper Rows.debugBackRow.mainSum := by unfold Func.isWrapper; first | (rw [if_pos (by decide +kernel)]; kernel_rfl) | (rw [if_neg (by decide +kernel)]; exact ⟨rfl, rfl⟩)
end Go.Proofs.YtnlkhnbbkjejkaaGreatDoor
end
