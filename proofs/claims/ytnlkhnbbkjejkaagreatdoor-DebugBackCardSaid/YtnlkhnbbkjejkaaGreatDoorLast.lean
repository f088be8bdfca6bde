/- DebugBack returns true for every list, index and number, and changes nothing that lay before. No conditions. Part Last. -/
import Derived.Test.YtnlkhnbbkjejkaaGreatDoorSan
import Derived.Test.YtnlkhnbbkjejkaaGreatDoorWalk
import Derived.Test.YtnlkhnbbkjejkaaGreatDoorRwA
import Derived.Deep.Slices
import Derived.Test.YtnlkhnbbkjejkaaGreatDoorJE
import Derived.Test.YtnlkhnbbkjejkaaGreatDoorJF
import Derived.MakeChecks
import Derived.Test.YtnlkhnbbkjejkaaGreatDoorClD
import Derived.Test.YtnlkhnbbkjejkaaGreatDoorKC
import Derived.Test.YtnlkhnbbkjejkaaGreatDoorKA
import Derived.Test.YtnlkhnbbkjejkaaGreatDoorJA
import Derived.Test.YtnlkhnbbkjejkaaGreatDoorJB
import Derived.Test.YtnlkhnbbkjejkaaGreatDoorJC
import Derived.Test.YtnlkhnbbkjejkaaGreatDoorJD
import Derived.Test.YtnlkhnbbkjejkaaGreatDoorTW
import Derived.Test.YtnlkhnbbkjejkaaGreatDoorTA
import Derived.Test.YtnlkhnbbkjejkaaGreatDoorTN
import Derived.Test.YtnlkhnbbkjejkaaGreatDoorTP
import Derived.Test.YtnlkhnbbkjejkaaGreatDoorTL
import Derived.Test.YtnlkhnbbkjejkaaGreatDoorTR
import Derived.Test.YtnlkhnbbkjejkaaGreatDoorCards
set_option linter.unusedSimpArgs false
set_option linter.unusedVariables false
section
namespace Go.Proofs.YtnlkhnbbkjejkaaGreatDoor
open Go Go.ChangeShapes Go.WideShapes Go.ChangeAt Go.RowKit Go.Lib Go.Proofs Go.Deep

/-- the moments of a slice, out of its reading -/
theorem lies_of {H : Type} {enc : TypeId × Value → H} {W : World} {b off len : Nat} {spot : Option Nat} {fuel : Nat} {y : Nat → DataW H × List MemPlace}
    (hpos : 0 < len) (hh : ∀ i, i < len → ∃ cs', W.cells? 0 ((⟨b, off, spot⟩ : Addr).add (i * Tryz.prog.cellsOf 29)) (Tryz.prog.cellsOf 29) = some cs' ∧ DataW.trod enc Tryz.prog W 0 (fun _ => true) true fuel 29 cs' = some (y i)) :
    spot = none ∧ ∃ zs : List Mom, zs.length = len ∧ Lies b off zs W := by
  have hs0 : spot = none := by
    obtain ⟨cs', h1, _⟩ := hh 0 hpos
    rw [r_cells29] at h1
    obtain ⟨_, hl, hc⟩ := World.cells?_some h1
    match cs', hl with
    | [c0, c1, c2, c3], _ =>
      have g0 : W.cell? (⟨b, off, spot⟩ : Addr) = some c0 := by simpa [Addr.add] using hc 0 (by omega)
      simpa using World.cell?_spot g0
  subst hs0
  have one : ∀ i, i < len → ∃ m : Mom, ∀ k v, (encM m)[k]? = some v → W.cell? ⟨b, off + i * 4 + k, none⟩ = some v := by
    intro i hi
    obtain ⟨cs', h1, h2⟩ := hh i hi
    rw [r_cells29] at h1
    obtain ⟨_, hl, hc⟩ := World.cells?_some h1
    match cs', hl with
    | [c0, c1, c2, c3], _ =>
      obtain ⟨xs, n, _, _, _, _, hf⟩ := DataW.trod_struct Tryz.underlying29 h2
      have h3 : DataW.trod enc Tryz.prog W 0 (fun _ => true) true n 3 (([c0, c1, c2, c3].drop 0).take (Tryz.prog.cellsOf 3)) = xs[0]? := hf 0 _ rfl
      rw [r_cells3] at h3
      have hst : ∃ st, c0 = .int .i64 st := by
        cases hx : xs[0]? with
        | none => simp at hx; simp_all
        | some x =>
          rw [hx] at h3
          obtain ⟨z, hz, _⟩ := DataW.trod_int Tryz.underlying3 h3
          exact ⟨z, by simpa using hz⟩
      obtain ⟨st, rfl⟩ := hst
      refine ⟨⟨st, c1, c2, c3⟩, fun k v hk => ?_⟩
      have ea : ∀ j, ((⟨b, off, none⟩ : Addr).add (i * 4)).add j = ⟨b, off + i * 4 + j, none⟩ := fun j => by
        unfold Addr.add
        split <;> split <;> simp_all
      have key : ∀ j, j < 4 → W.cell? ⟨b, off + i * 4 + j, none⟩ = [Value.int .i64 st, c1, c2, c3][j]? := fun j hj => by rw [← ea j]; exact hc j hj
      have hk4 : k < 4 := by
        have := (List.getElem?_eq_some_iff.1 hk).1
        simpa [encM] using this
      rw [key k hk4]
      exact hk
  obtain ⟨m0, h0⟩ := one 0 hpos
  obtain ⟨f, hf⟩ := choose_lt (α := Mom) (p := fun i m => ∀ k v, (encM m)[k]? = some v → W.cell? ⟨b, off + i * 4 + k, none⟩ = some v) one
  refine ⟨rfl, (List.range len).map f, by simp, ?_, ?_⟩
  · have := h0 0 _ rfl
    unfold World.cell? at this
    split at this
    · rename_i hx
      exact (Array.getElem?_eq_some_iff.1 hx).1
    · cases this
  · intro j hj k v hk
    have hj' : j < len := by simpa using hj
    refine hf j hj' k v ?_
    simpa [hj'] using hk

end Go.Proofs.YtnlkhnbbkjejkaaGreatDoor
end
section
namespace Go.Proofs.YtnlkhnbbkjejkaaGreatDoor
open Go
theorem r_laidOut : laidOutB Tryz.prog = true := by
  unfold laidOutB
  rw [j_lg, j_lf, Bool.and_true, Bool.and_true]
  refine List.all_eq_true.2 fun t ht => ?_
  rw [List.mem_range, j_types] at ht
  have pick : ∀ a k, (List.range' a k).all (rowFine Tryz.prog) = true → a ≤ t → t < a + k → rowFine Tryz.prog t = true := fun a k h h1 h2 =>
    List.all_eq_true.1 h t (List.mem_range'_1.2 ⟨h1, h2⟩)
  by_cases h0 : t < 300
  · exact pick _ _ j_l0 (by omega) (by omega)
  · by_cases h1 : t < 480
    · exact pick _ _ j_l1 (by omega) (by omega)
    · by_cases h2 : t < 620
      · exact pick _ _ j_l2 (by omega) (by omega)
      · by_cases h3 : t < 760
        · exact pick _ _ j_l3 (by omega) (by omega)
        · exact pick _ _ j_l4 (by omega) (by omega)
end Go.Proofs.YtnlkhnbbkjejkaaGreatDoor
end
section
namespace Go.Proofs.YtnlkhnbbkjejkaaGreatDoor
open Go Go.ChangeShapes Go.WideShapes Go.ChangeAt Go.RowKit Go.Lib Go.Proofs Go.Deep
theorem laid_plain : (Rows.debugBackRow.laid.all fun x => x.2.handleName?.isNone) = true := by kernel_rfl
theorem laid_met (os : Os) : laidMetH Tryz.prog Rows.debugBackRow.laid (wAt os).memory := by
  rw [MakeChecks.laidMetH_plain _ _ _ laid_plain]
  exact laidMet_laidAll _ (r_w6 os) (r_w7 os)
set_option maxRecDepth 100000 in
theorem debugBack_lifted (os : Os) (started : os.Started) (H : Type) (enc : TypeId × Value → H) :
    ReturnsInHanded {} Tryz.checked os 3 .any (fun w args => (Rows.debugBackSpec.pre enc Tryz.prog Tryz.f3 [] false w args ∧ laidMetH Tryz.prog Rows.debugBackRow.laid w) ∧ sizedMet enc Tryz.prog Tryz.f3 (OpenSpec.ofChange Rows.debugBackSpec) false w args)
      (Rows.debugBackSpec.post enc Tryz.prog Tryz.f3 false true false false) := by
  refine returnsInHanded_of_calls (C := Tryz.checked) r_own started r_noInit
    (ChangeSpec.witness_shaped (enc := enc) (C := Tryz.checked) (os := os) (fn := Tryz.f3) (s := Rows.debugBackSpec) (conds := []) (apart := false) (X := fun w _ => laidMetH Tryz.prog Rows.debugBackRow.laid w) false (wLaid os) wArgs 8 (World.laidAll_os _ _ _)
      (World.shaped_of_ZipB (r_w1 os) (r_w2 os)) (r_w3 os) (r_w4 enc os) (r_w5 enc os) (laid_met os)) ?_
  intro w tape i _ hsh _ hok hpre _
  obtain ⟨_, _, _, fn', hfn', _, _, _, _, hval0⟩ := hok
  have e : fn' = Tryz.f3 := Option.some.inj (hfn'.symm.trans Tryz.func3)
  subst e
  obtain ⟨⟨⟨ds, gs, before, hw, _⟩, hL0⟩, _⟩ := hpre
  have hW := DataW.Whole.of_heap (w' := w.forCall tape i) (by rfl) hw
  have hL1 : laidMetH Tryz.prog Rows.debugBackRow.laid (w.forCall tape i) := hL0.of_heap (by rfl)
  obtain ⟨_, args, _⟩ := i
  generalize hWW : w.forCall tape _ = W at hsh hval0 hW hL1 ⊢
  have hsh' : World.ShapedOpen Tryz.prog W := hsh
  rw [MakeChecks.laidMetH_plain _ _ _ laid_plain] at hL1
  have hT : Go.Vm.Tabs W := Go.Vm.tabs_of hsh' (laidMet.reads hL1 (.head _))
  have hsan : ∀ V, Below W.heap.size W V → Calls Tryz.prog 4 #[] V fun e w' => e = .returned (.bool true) ∧ Below V.heap.size V w' := fun V hV =>
    Go.Vm.sanity_calls (by
      obtain ⟨C, h1, h2⟩ := hT.space
      have hz := hT.size
      exact ⟨Nat.le_trans hz hV.size, C, by rw [hV.block 2 (by omega)]; exact h1, h2⟩)
  refine Calls.mono (R := fun e w' => e = .returned (.bool true) ∧ Below W.heap.size W w') ?_ ?_
  · have hval : ∀ (j : Nat) t v, Tryz.f3.params[j]? = some t → args[j]? = some v → Value.okWide Tryz.prog W .any w.heap.size t v := hval0
    obtain ⟨p, q, hA0, hV, _, _, _⟩ := hW
    have hA : DataW.TrodAll enc Tryz.prog W 0 (fun _ => true) true Tryz.f3.params.toList args.toList ds p := hA0
    rw [Tryz.params3] at hA hval
    obtain ⟨v0, v1, v2, d0, d1, d2, p0, p1, p2, rfl, rfl, rfl, h0, h1, h2⟩ := trodAll_three hA
    obtain ⟨f, rfl, _, _, _⟩ := open_int Tryz.underlying3 (hval 1 3 v1 rfl rfl) h1
    obtain ⟨st, rfl, _, _, _⟩ := open_int Tryz.underlying3 (hval 2 3 v2 rfl rfl) h2
    obtain ⟨a0, len, cap, rfl⟩ := okWide_slice Tryz.underlying22 (hval 0 22 v0 rfl rfl)
    obtain ⟨fuel, hf⟩ := h0
    by_cases hout : len > 300 ∨ f < 0 ∨ f > (len : Int)
    · exact debugBack_out a0 len cap f st W hout (hsan W (Below.refl _ W))
    · have hf0 : ∃ k : Nat, f = k := ⟨f.toNat, by omega⟩
      obtain ⟨k, rfl⟩ := hf0
      by_cases hl0 : len = 0
      · subst hl0
        have hk : k = 0 := by omega
        subst hk
        exact debugBack_nil a0 cap st W hsan
      · rcases open_slice Tryz.underlying22 hf with ⟨hcs, _⟩ | ⟨a, len', cap', m, n, D, Pl, hcs, _, hl, _, hm, _, hx⟩
        · simp [Value.cells] at hcs
          omega
        · simp [Value.cells] at hcs
          obtain ⟨rfl, rfl, rfl⟩ := hcs
          simp only [if_true] at hm
          obtain ⟨b, off, spot⟩ := a
          obtain ⟨rfl, zs, hzl, hlies⟩ := lies_of (W := W) (b := b) (off := off) (spot := spot) (len := len) (y := fun i => (D i, Pl i)) (by omega) (fun i hi => hx i (by omega))
          exact debugBack_in b off len cap zs k st W (by omega) (by omega) (by omega) hlies hsan
  · rintro e W' ⟨rfl, hb⟩
    refine ChangeSpec.post_blind ?_
    have hW' := hW
    obtain ⟨p, q, hA0, hV, hpq, _, _⟩ := hW
    have hA : DataW.TrodAll enc Tryz.prog W 0 (fun _ => true) true Tryz.f3.params.toList args.toList ds p := hA0
    rw [Tryz.params3] at hA
    obtain ⟨v0, v1, v2, d0, d1, d2, p0, p1, p2, rfl, rfl, rfl, h0, h1, h2⟩ := trodAll_three hA
    obtain ⟨rfl, rfl⟩ := trodVars_none hV
    subst hpq
    simp only [List.append_nil] at hW'
    have hlt : ∀ x ∈ p0 ++ p1 ++ p2, x.block < W.heap.size := fun x hx => by simpa using hW'.lt x hx
    have r3 : Tryz.prog.readableRec 3 = true := r_read3
    refine ⟨_, _, _, [], p0 ++ (p1 ++ p2), [], hW', trodAll_mk1 (shut_bool Tryz.underlying4 _), ?_, rfl, hb.frame _, fun h => by cases h⟩
    exact trodAll_mk3 (Below.trod r_laidOut r_read22 r_row22 h0 hb fun x hx => hlt x (by simp [hx])) (Below.trod r_laidOut r_read3 r_row3 h1 hb fun x hx => hlt x (by simp [hx])) (Below.trod r_laidOut r_read3 r_row3 h2 hb fun x hx => hlt x (by simp [hx]))
end Go.Proofs.YtnlkhnbbkjejkaaGreatDoor
end
section
namespace Go.Proofs.YtnlkhnbbkjejkaaGreatDoor
open Go
set_option maxRecDepth 100000 in
theorem joined : joinedFacts Tryz.prog 3 Tryz.f3 Rows.debugBackSpec Rows.debugBackRow = true := by
  unfold joinedFacts
  simp only [Bool.and_eq_true]
  exact ⟨⟨⟨⟨⟨⟨⟨⟨⟨⟨⟨⟨⟨⟨⟨⟨⟨⟨⟨⟨⟨⟨⟨⟨⟨⟨⟨⟨⟨⟨⟨j_k1, r_laidOut⟩, j_k3⟩, j_k4⟩, j_k5⟩, j_k6⟩, j_k7⟩, j_k8⟩, j_k9⟩, j_k10⟩, j_k11⟩, j_k12⟩, j_k13⟩, j_k14⟩, j_k15⟩, j_k16⟩, j_k17⟩, j_k17b⟩, j_k18⟩, j_k19⟩, j_k20⟩, j_k21⟩, j_k22⟩, j_k23⟩, j_k23b⟩, j_k24⟩, j_k24b⟩, j_k24c⟩, j_k25⟩, j_k26⟩, j_k27⟩, j_k28⟩
theorem debugBack_said : Rows.DebugBackSaid :=
  OpenClaim.holds_of_wide (p := Tryz.pinned) 3 Tryz.f3 rfl rfl rfl rfl rfl rfl rfl ⟨rfl, rfl, rfl, rfl, rfl⟩ rfl rfl rfl rfl rfl c_fn Tryz.func3 joined c_inst c_wrap
    (fun os started H enc _ => debugBack_lifted os started H enc)
end Go.Proofs.YtnlkhnbbkjejkaaGreatDoor
end
section
namespace Go.Proofs.YtnlkhnbbkjejkaaGreatDoor
open Go
theorem t_plain : (laid8.all fun x => x.2.handleName?.isNone) = true := by kernel_rfl
theorem tie8 : Tryz.prog.laidByTextLater laid8 kinds8 true :=
  Program.laidByTextLater_by_run 400 8 t_hw t_hw2 t_root t_hk t_hg t_hn t_hd (fun os tape => by rw [t_mem]; exact t_h1' os) (fun os tape => by rw [t_mem]; exact t_h2' os) t_plain
theorem noOwnUnsafe : Tryz.pinned.checked.prog.headLifts.contains "ownunsafe" = false := by kernel_rfl
theorem fits1 : Tryz.pinned.checked.prog.listedFits Rows.debugBackRow.laid = true := by
  unfold Program.listedFits
  rw [noOwnUnsafe]
  kernel_rfl
theorem debugBack_row_tie : Rows.debugBackRow.laidByTextAt .later Tryz.pinned [.data, .listed, .data, .data, .data, .pinned, .data, .data, .data] true :=
  OpenClaim.laidByTextAt_pinned rfl rfl tie8 rfl rfl rfl rfl (fun y hy _e => by
    simp only [Rows.debugBackRow, List.zip_cons_cons, List.zip_nil_right, List.mem_cons, List.mem_nil_iff, or_false] at hy
    rcases hy with rfl | rfl | rfl | rfl | rfl | rfl | rfl | rfl | rfl
    · cases _e
    · cases _e
    · cases _e
    · cases _e
    · cases _e
    · exact ⟨pin_first, by kernel_rfl⟩
    · cases _e
    · cases _e
    · cases _e) fits1
end Go.Proofs.YtnlkhnbbkjejkaaGreatDoor
end
section
namespace Go.Proofs.YtnlkhnbbkjejkaaGreatDoor
open Go
theorem debugBack_card : Rows.DebugBackCardSaid :=
  Claim7.holds_tied_plain_at .later [] [.data, .listed, .data, .data, .data, .pinned, .data, .data, .data] true (true, "b9d221a5538467b49d49f59b921574df3bfd342ab03e579db9dd30a506440e57") true debugBack_said (fun _ h => by cases h) c_wf (fun _ h => by cases h) debugBack_row_tie rfl ⟨rfl, rfl⟩ c_main rfl
    (fun f fn hf hfn => by
      obtain rfl : f = 3 := Option.some.inj (c_fn.symm.trans hf) |>.symm
      obtain rfl : fn = Tryz.f3 := (Option.some.inj (Tryz.func3.symm.trans hfn)).symm
      exact ⟨c_looks, fun j t ht => by
        rw [Tryz.params3] at ht
        have hm : t ∈ [22, 3, 3] := by simpa using Array.mem_of_getElem? ht
        exact (show Tryz.prog.wantsStandIn t = false by simpa using List.all_eq_true.1 c_stand t hm)⟩)
    c_goes
end Go.Proofs.YtnlkhnbbkjejkaaGreatDoor
end
