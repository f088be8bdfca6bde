/- DebugBack returns true for every list, index and number, and changes nothing that lay before. No conditions. Part San. -/
import Derived.Test.YtnlkhnbbkjejkaaGreatDoorHB
import Derived.Test.YtnlkhnbbkjejkaaGreatDoorHA
import Derived.Test.YtnlkhnbbkjejkaaGreatDoorRunW
import Derived.Test.YtnlkhnbbkjejkaaGreatDoorRunA
import Derived.Test.YtnlkhnbbkjejkaaGreatDoorRunB
import Derived.Test.YtnlkhnbbkjejkaaGreatDoorRun0
import Derived.Test.YtnlkhnbbkjejkaaGreatDoorRun1
import Derived.Test.YtnlkhnbbkjejkaaGreatDoorRun2
import Derived.Test.YtnlkhnbbkjejkaaGreatDoorRun3
import Derived.Test.YtnlkhnbbkjejkaaGreatDoorRun4
import Derived.Test.YtnlkhnbbkjejkaaGreatDoorRun5
import Derived.Test.YtnlkhnbbkjejkaaGreatDoorRun6
import Derived.Test.YtnlkhnbbkjejkaaGreatDoorRun7
import Derived.Test.YtnlkhnbbkjejkaaGreatDoorRows
import Derived.Lib.LaidU8
set_option linter.unusedSimpArgs false
set_option linter.unusedVariables false
section
namespace Go.Vm
open Go.Proofs Go.RowKit
set_option maxRecDepth 100000
noncomputable section
def Z0s : St := ⟨bEnd191640F, bEnd191640C, layH bEnd191640K bEnd191640O, bEnd191640N⟩
def Z1s : St := onS (runA E1 1 Z0s)
def Z2s : St := onS (stepA E1 Z1s)
theorem a0F_enter : enterA E1.P 4 [] false = some a0F := by kernel_rfl
theorem Z1_run : runA E1 1 Z0s = some (.on Z1s) := by kernel_rfl
theorem Z2_done : stepA E1 Z1s = some (.done (.bool true) Z2s) := by kernel_rfl
theorem Z1_def : Z1s.fr.deferred = false := by kernel_rfl
/-- sanity() returns true, and turns nothing that lay before. -/
theorem sanity_calls {W : World} (hT : Tabs W) : Calls Tryz.prog 4 #[] W fun e w' => e = .returned (.bool true) ∧ Below W.heap.size W w' := by
  intro cs
  have hH : HookOK E1 W := hooks_ok hT
  have hst : Stands E1 W cs { fr := a0F, cs := [], h := spaceH, next := nk 18 } (lone (Frame.enter Tryz.prog 4 #[] .normal) cs W) :=
    init_stands (E := E1) (us := []) hT.size (by show 11 < (nk 18).val; rw [nk_val]; omega) hT.old RVs.nil a0F_enter
  obtain ⟨m1, g1, h1⟩ := stretch fe1 env1 hH mixed1 a15000_run hst
  obtain ⟨m2, g2, h2⟩ := stretch fe1 env1 hH mixed1 a30000_run h1
  obtain ⟨m3, g3, h3⟩ := stretch fe1 env1 hH mixed1 a45000_run h2
  obtain ⟨m4, g4, h4⟩ := stretch fe1 env1 hH mixed1 a60000_run h3
  obtain ⟨m5, g5, h5⟩ := stretch fe1 env1 hH mixed1 aEnd66740_run h4
  obtain ⟨m6, g6, h6⟩ := marks env1 hH mixed1 h5
  obtain ⟨m7, g7, h7⟩ := stretch fe1 env1 hH mixed1 b24000_run h6
  obtain ⟨m8, g8, h8⟩ := stretch fe1 env1 hH mixed1 b48000_run h7
  obtain ⟨m9, g9, h9⟩ := stretch fe1 env1 hH mixed1 b72000_run h8
  obtain ⟨m10, g10, h10⟩ := stretch fe1 env1 hH mixed1 b96000_run h9
  obtain ⟨m11, g11, h11⟩ := stretch fe1 env1 hH mixed1 b120000_run h10
  obtain ⟨m12, g12, h12⟩ := stretch fe1 env1 hH mixed1 b144000_run h11
  obtain ⟨m13, g13, h13⟩ := stretch fe1 env1 hH mixed1 b168000_run h12
  obtain ⟨m14, g14, h14⟩ := stretch fe1 env1 hH mixed1 bEnd191640_run h13
  obtain ⟨m15, g15, h15⟩ := run_sound env1 hH (draw_ok env1 hH mixed1 cs) 1 Z0s Z1s m14 h14 Z1_run
  obtain ⟨σ, f, w, u, rfl, k1, k2, k3, k4⟩ := done_sound h15 Z2_done Z1_def
  simp only [RV] at k3
  subst k3
  have hfn : Z1s.fr.fn = 4 := by kernel_rfl
  refine ⟨.returned (.bool true), w, f, ⟨rfl, ⟨k4.os, k4.tape, k4.output, k4.size, k4.old⟩⟩, ?_, by rw [k2, hfn], k1⟩
  exact g1.trans (g2.trans (g3.trans (g4.trans (g5.trans (g6.trans (g7.trans (g8.trans (g9.trans (g10.trans (g11.trans (g12.trans (g13.trans (g14.trans g15)))))))))))))
end
end Go.Vm
end
section
namespace Go.Vm
open Go.Proofs Go.RowKit Go.Lib
set_option maxRecDepth 100000
def spaceZ : List Int := List.replicate 9 0 ++ (List.replicate 5 1 ++ (List.replicate 18 0 ++ ([1] ++ List.replicate 223 0)))
theorem spaceZ_data : Go.Proofs.YtnlkhnbbkjejkaaGreatDoor.Rows.laid_strings_asciiSpace = (tabData .u8 spaceZ : DataW Unit) := by kernel_rfl
theorem spaceZ_list : spaceL = spaceZ.map fun z => AV.int .u8 z := by kernel_rfl
theorem rvs_ints (σ : Sig) (k : IntKind) : ∀ l : List Int, RVs σ (l.map fun z => AV.int k z) (l.map fun z => Value.int k z)
  | [] => RVs.nil
  | z :: l => RVs.cons (by simp only [RV]) (rvs_ints σ k l)
theorem globals_size : Tryz.prog.globals.size = 11 := by kernel_rfl
theorem space_named : Tryz.prog.globalNamed "strings.asciiSpace" = some 2 := by kernel_rfl
theorem space_type : (Tryz.prog.globals[2]?).map (·.type) = some 776 := by kernel_rfl
theorem space_under : Tryz.prog.underlying 776 = some (.array 256 5) := by kernel_rfl
theorem u8_under : Tryz.prog.underlying 5 = some (.int .u8) := by kernel_rfl
theorem u8_cells : Tryz.prog.cellsOf 5 = 1 := by kernel_rfl
theorem space_cells : Tryz.prog.cellsOf 776 = 256 := by kernel_rfl
theorem row_type (x : Option (Array Value × TypeId)) (t : TypeId) (h : x.map (·.2) = some t) : ∃ z, x = some (z, t) := by
  cases x with
  | none => cases h
  | some y => exact ⟨y.1, by cases h; rfl⟩
theorem begun2 : (((begin Tryz.prog (fun _ _ => 0) default).world.heap[2]?).bind Obj.row?).map (·.2) = some 776 := by kernel_rfl
theorem begun10 : (((begin Tryz.prog (fun _ _ => 0) default).world.heap[10]?).bind Obj.row?).isSome = true := by kernel_rfl
/-- The tables stand in every world that the row lets in. -/
theorem tabs_of {W : World} (hs : W.ShapedOpen Tryz.prog) (hr : VarReads Tryz.prog W "strings.asciiSpace" Go.Proofs.YtnlkhnbbkjejkaaGreatDoor.Rows.laid_strings_asciiSpace) : Tabs W := by
  have hs1 := hs.1
  have hsz : 11 ≤ W.heap.size := by
    obtain ⟨⟨z, t⟩, hz⟩ := Option.isSome_iff_exists.1 begun10
    obtain ⟨cs, h1, _⟩ := hs1 10 z t (by rw [globals_size]; omega) hz
    have := (Array.getElem?_eq_some_iff.1 h1).1
    omega
  obtain ⟨z, hz⟩ := row_type _ _ begun2
  obtain ⟨cs, h1, _⟩ := hs1 2 z 776 (by rw [globals_size]; omega) hz
  obtain ⟨g, t, cs', fuel, p, k1, k2, k3, k4⟩ := hr
  rw [space_named] at k1
  cases k1
  rw [space_type] at k2
  cases k2
  have k3' : some cs = some cs' := by
    have := k3
    unfold World.var? at this
    rw [space_named] at this
    simpa [h1] using this
  cases k3'
  rw [spaceZ_data] at k4
  have e := cells_of_tab space_under u8_under u8_cells space_cells k4
  exact ⟨hsz, cs, h1, fun σ => by rw [e, spaceZ_list]; exact rvs_ints σ .u8 spaceZ⟩
end Go.Vm
end
