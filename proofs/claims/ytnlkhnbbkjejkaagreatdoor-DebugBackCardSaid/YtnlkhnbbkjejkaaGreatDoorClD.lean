/- DebugBack returns true for every list, index and number, and changes nothing that lay before. No conditions. Part ClD. -/
import Derived.Test.YtnlkhnbbkjejkaaGreatDoorClA
import Derived.Test.YtnlkhnbbkjejkaaGreatDoorClB
import Derived.Test.YtnlkhnbbkjejkaaGreatDoorClC
set_option linter.unusedSimpArgs false
set_option linter.unusedVariables false
section
namespace Go.Proofs.YtnlkhnbbkjejkaaGreatDoor
open Go
set_option maxRecDepth 100000
theorem funcs_len : Tryz.prog.funcs.toList.length = 763 := by kernel_rfl
theorem lt_at : ∀ i, ((Tryz.prog.funcs.toList.drop (i * 28)).take 28).map Tryz.prog.leadsTo = ltBs.getD i []
  | 0 => lt_0
  | 1 => lt_1
  | 2 => lt_2
  | 3 => lt_3
  | 4 => lt_4
  | 5 => lt_5
  | 6 => lt_6
  | 7 => lt_7
  | 8 => lt_8
  | 9 => lt_9
  | 10 => lt_10
  | 11 => lt_11
  | 12 => lt_12
  | 13 => lt_13
  | 14 => lt_14
  | 15 => lt_15
  | 16 => lt_16
  | 17 => lt_17
  | 18 => lt_18
  | 19 => lt_19
  | 20 => lt_20
  | 21 => lt_21
  | 22 => lt_22
  | 23 => lt_23
  | 24 => lt_24
  | 25 => lt_25
  | 26 => lt_26
  | 27 => lt_27
  | i + 28 => by
    rw [List.drop_eq_nil_of_le (by rw [funcs_len]; omega), List.take_nil, List.map_nil]
    rw [List.getD_eq_getElem?_getD, List.getElem?_eq_none (by show 28 ≤ i + 28; omega)]
    rfl
theorem lead_all (f : Nat) : (Tryz.prog.funcs[f]?).elim [] Tryz.prog.leadsTo = ltAt f := by
  unfold ltAt
  have h : (((Tryz.prog.funcs.toList.drop (f / 28 * 28)).take 28).map Tryz.prog.leadsTo).getD (f % 28) [] = (ltBs.getD (f / 28) []).getD (f % 28) [] := by rw [lt_at (f / 28)]
  rw [← h, List.getD_eq_getElem?_getD, List.getElem?_map, List.getElem?_take, List.getElem?_drop]
  have e : f / 28 * 28 + f % 28 = f := by omega
  have lt : f % 28 < 28 := Nat.mod_lt _ (by omega)
  rw [if_pos lt, e, Array.getElem?_toList]
  cases Tryz.prog.funcs[f]? <;> rfl
theorem lead_map : Tryz.prog.funcs.toList.map Tryz.prog.leadsTo = (List.range 28).flatMap fun i => ltBs.getD i [] := by
  have h := chunks Tryz.prog.funcs.toList 28 28
  rw [List.take_of_length_le (by rw [funcs_len]; omega)] at h
  rw [← h, List.map_flatMap]
  congr 1
  funext i
  exact lt_at i
theorem lead_sum : (((List.range 28).flatMap fun i => ltBs.getD i []).map fun l => l.length + 1).sum = 2770 := by kernel_rfl
theorem closure_eq : Tryz.prog.closure 3 = reL := by
  unfold Program.closure
  have e : (Tryz.prog.funcs.toList.map fun g => (Tryz.prog.leadsTo g).length + 1).sum = 2770 := by
    rw [← lead_sum, ← lead_map, List.map_map]
    rfl
  rw [e]
  exact reach_sound Tryz.prog lead_all 1993 _ [3] [] reL 0 (fun f => by simp) (by omega) re_run
end Go.Proofs.YtnlkhnbbkjejkaaGreatDoor
end
section
namespace Go.Proofs.YtnlkhnbbkjejkaaGreatDoor
open Go
set_option maxRecDepth 100000
theorem j_k10 : (Rows.debugBackRow.inPlace == Tryz.prog.inPlace 3) = true := by
  unfold Program.inPlace
  rw [closure_eq]
  unfold reL
  rw [List.filterMap_append, List.filterMap_append, List.filterMap_append, List.filterMap_append, List.filterMap_append, ip_0, ip_1, ip_2, ip_3, ip_4, ip_5]
  kernel_rfl
theorem unf_7 : ((Tryz.prog.funcs[7]?).any fun fn => match fn.body with | some c => c.unfollowed | none => entryCalls fn) = true := by kernel_rfl
theorem reL_7 : (7 : Nat) ∈ reL := List.contains_iff_mem.1 (by kernel_rfl)
theorem unf_3 : Tryz.prog.unfollowed 3 = true := by
  unfold Program.unfollowed
  rw [closure_eq]
  exact List.any_eq_true.2 ⟨7, reL_7, unf_7⟩
theorem j_k11 : (Rows.debugBackRow.unfollowed == Tryz.prog.unfollowed 3) = true := by
  rw [unf_3]; rfl
theorem j_k12 : (Rows.debugBackRow.recurses == Tryz.prog.recurses 3) = true := by
  unfold Program.recurses
  rw [unf_3, Bool.true_or]; rfl
theorem j_k13 : (Rows.debugBackRow.named == Tryz.prog.varsNamed 3) = true := by
  unfold Program.varsNamed
  rw [closure_eq]
  unfold reL
  rw [List.flatMap_append, List.flatMap_append, List.flatMap_append, List.flatMap_append, List.flatMap_append, gl_0, gl_1, gl_2, gl_3, gl_4, gl_5]
  rw [List.filterMap_append, List.filterMap_append, List.filterMap_append, List.filterMap_append, List.filterMap_append, rd_0, rd_1, rd_2, rd_3, rd_4, rd_5]
  kernel_rfl
end Go.Proofs.YtnlkhnbbkjejkaaGreatDoor
end
