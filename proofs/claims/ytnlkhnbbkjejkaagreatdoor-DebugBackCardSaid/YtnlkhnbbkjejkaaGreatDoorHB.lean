/- DebugBack returns true for every list, index and number, and changes nothing that lay before. No conditions. Part HB. -/
import Derived.Shelf.SlIter.Nil
import Derived.Shelf.SortM.Plain
import Derived.Shelf.SortM.SortNone
import Derived.Ground.GgzProg
import Derived.Ground.SlgmProg
import Derived.Test.YtnlkhnbbkjejkaaGreatDoorProg
import Derived.Test.YtnlkhnbbkjejkaaGreatDoorSX
import Derived.Test.YtnlkhnbbkjejkaaGreatDoorSW
import Derived.Test.YtnlkhnbbkjejkaaGreatDoorRunW
import Derived.Test.YtnlkhnbbkjejkaaGreatDoorVE
import Derived.Lib.Builder
set_option linter.unusedSimpArgs false
set_option linter.unusedVariables false
section
namespace Go.Proofs
open Go.Shelf
def Tryz.keys354_ren : Go.Shelf.Ren := ⟨fun | 7 => 354 | 10 => 437 | n => n, fun | 23 => 520 | 26 => 9 | 3 => 523 | 28 => 518 | 0 => 0 | 27 => 517 | 33 => 401 | 4 => 4 | n => n, fun | n => n⟩
theorem Tryz.keys354 : Go.Proofs.SlLaysZ.n7 Tryz.prog Tryz.keys354_ren := {
  mixed := by kernel_rfl
  f7 := ⟨Tryz.f354.name, by decide, Tryz.func354.trans (congrArg some (by kernel_rfl))⟩
  f10 := ⟨Tryz.f437.name, by decide, Tryz.func437.trans (congrArg some (by kernel_rfl))⟩
  t0 := Tryz.underlying0
  a0 := Tryz.isAgg0
  z0 := Tryz.sizeOf0
  v0 := Tryz.zeroValue0
  t4 := Tryz.underlying4
  a4 := Tryz.isAgg4
  z4 := Tryz.sizeOf4
  v4 := Tryz.zeroValue4
  t23 := Tryz.underlying520
  a23 := Tryz.isAgg520
  z23 := Tryz.sizeOf520
  v23 := Tryz.zeroValue520
  t26 := Tryz.underlying9
  a26 := Tryz.isAgg9
  z26 := Tryz.sizeOf9
  v26 := Tryz.zeroValue9
  t27 := Tryz.underlying517
  a27 := Tryz.isAgg517
  z27 := Tryz.sizeOf517
  v27 := Tryz.zeroValue517
  t28 := Tryz.underlying518
  a28 := Tryz.isAgg518
  z28 := Tryz.sizeOf518
  v28 := Tryz.zeroValue518
  t33 := Tryz.underlying401
  a33 := Tryz.isAgg401
  z33 := Tryz.sizeOf401
  v33 := Tryz.zeroValue401 }
def Tryz.sorted353_ren : Go.Shelf.Ren := ⟨fun | 6 => 353 | 8 => 435 | 9 => 436 | 11 => 540 | 13 => 365 | 12 => 541 | 23 => 453 | 24 => 454 | 14 => 612 | 15 => 613 | 16 => 614 | 17 => 615 | 18 => 616 | 19 => 617 | 20 => 618 | 21 => 619 | 22 => 620 | 25 => 675 | 26 => 552 | 27 => 553 | 28 => 676 | 29 => 677 | 30 => 678 | 31 => 704 | n => n, fun | 26 => 9 | 28 => 518 | 24 => 33 | 0 => 0 | 3 => 3 | 37 => 234 | 48 => 358 | 50 => 361 | 4 => 4 | 40 => 621 | 39 => 620 | 45 => 625 | 5 => 5 | 9 => 9 | 51 => 726 | 55 => 538 | 57 => 796 | 58 => 130 | 33 => 401 | n => n, fun | n => n⟩
theorem Tryz.sorted353 : Go.Proofs.SlLaysZ.n6 Tryz.prog Tryz.sorted353_ren := {
  mixed := by kernel_rfl
  f6 := ⟨Tryz.f353.name, by decide, Tryz.func353.trans (congrArg some (by kernel_rfl))⟩
  f8 := ⟨Tryz.f435.name, by decide, Tryz.func435.trans (congrArg some (by kernel_rfl))⟩
  f11 := ⟨Tryz.f540.name, by decide, Tryz.func540.trans (congrArg some (by kernel_rfl))⟩
  t0 := Tryz.underlying0
  a0 := Tryz.isAgg0
  z0 := Tryz.sizeOf0
  v0 := Tryz.zeroValue0
  t24 := Tryz.underlying33
  a24 := Tryz.isAgg33
  z24 := Tryz.sizeOf33
  v24 := Tryz.zeroValue33
  t26 := Tryz.underlying9
  a26 := Tryz.isAgg9
  z26 := Tryz.sizeOf9
  v26 := Tryz.zeroValue9
  t28 := Tryz.underlying518
  a28 := Tryz.isAgg518
  z28 := Tryz.sizeOf518
  v28 := Tryz.zeroValue518
  i26 := by kernel_rfl }
def Tryz.sort436_ren : Go.Shelf.Ren := ⟨fun | 6 => 436 | 8 => 365 | 9 => 541 | 19 => 453 | 20 => 454 | 21 => 612 | 22 => 613 | 23 => 614 | 24 => 615 | 25 => 616 | 26 => 617 | 27 => 618 | 28 => 619 | 29 => 620 | 36 => 675 | 31 => 552 | 32 => 553 | 37 => 676 | 38 => 677 | 39 => 678 | 41 => 704 | n => n, fun | 27 => 33 | 29 => 9 | 3 => 3 | 32 => 234 | 26 => 33 | 0 => 0 | 44 => 358 | 46 => 361 | 4 => 4 | 36 => 621 | 35 => 620 | 41 => 625 | 5 => 5 | 9 => 9 | 53 => 726 | 57 => 538 | 63 => 796 | 64 => 130 | n => n, fun | n => n⟩
theorem Tryz.sort436 : Go.Proofs.SlLaysM.n6 Tryz.prog Tryz.sort436_ren := {
  mixed := by kernel_rfl
  f6 := ⟨Tryz.f436.name, by decide, Tryz.func436.trans (congrArg some (by kernel_rfl))⟩
  f8 := Tryz.func365.trans (congrArg some (by kernel_rfl))
  f9 := ⟨Tryz.f541.name, by decide, Tryz.func541.trans (congrArg some (by kernel_rfl))⟩
  f19 := Tryz.func453.trans (congrArg some (by kernel_rfl))
  f20 := Tryz.func454.trans (congrArg some (by kernel_rfl))
  f21 := ⟨Tryz.f612.name, by decide, Tryz.func612.trans (congrArg some (by kernel_rfl))⟩
  f22 := ⟨Tryz.f613.name, by decide, Tryz.func613.trans (congrArg some (by kernel_rfl))⟩
  f23 := ⟨Tryz.f614.name, by decide, Tryz.func614.trans (congrArg some (by kernel_rfl))⟩
  f24 := ⟨Tryz.f615.name, by decide, Tryz.func615.trans (congrArg some (by kernel_rfl))⟩
  f25 := ⟨Tryz.f616.name, by decide, Tryz.func616.trans (congrArg some (by kernel_rfl))⟩
  f26 := ⟨Tryz.f617.name, by decide, Tryz.func617.trans (congrArg some (by kernel_rfl))⟩
  f27 := ⟨Tryz.f618.name, by decide, Tryz.func618.trans (congrArg some (by kernel_rfl))⟩
  f28 := ⟨Tryz.f619.name, by decide, Tryz.func619.trans (congrArg some (by kernel_rfl))⟩
  f29 := ⟨Tryz.f620.name, by decide, Tryz.func620.trans (congrArg some (by kernel_rfl))⟩
  f31 := Tryz.func552.trans (congrArg some (by kernel_rfl))
  f32 := Tryz.func553.trans (congrArg some (by kernel_rfl))
  f36 := ⟨Tryz.f675.name, by decide, Tryz.func675.trans (congrArg some (by kernel_rfl))⟩
  f37 := ⟨Tryz.f676.name, by decide, Tryz.func676.trans (congrArg some (by kernel_rfl))⟩
  f38 := ⟨Tryz.f677.name, by decide, Tryz.func677.trans (congrArg some (by kernel_rfl))⟩
  f39 := ⟨Tryz.f678.name, by decide, Tryz.func678.trans (congrArg some (by kernel_rfl))⟩
  f41 := ⟨Tryz.f704.name, by decide, Tryz.func704.trans (congrArg some (by kernel_rfl))⟩
  t0 := Tryz.underlying0
  a0 := Tryz.isAgg0
  z0 := Tryz.sizeOf0
  v0 := Tryz.zeroValue0
  t3 := Tryz.underlying3
  a3 := Tryz.isAgg3
  z3 := Tryz.sizeOf3
  v3 := Tryz.zeroValue3
  t4 := Tryz.underlying4
  a4 := Tryz.isAgg4
  z4 := Tryz.sizeOf4
  v4 := Tryz.zeroValue4
  t5 := Tryz.underlying5
  a5 := Tryz.isAgg5
  z5 := Tryz.sizeOf5
  v5 := Tryz.zeroValue5
  t9 := Tryz.underlying9
  a9 := Tryz.isAgg9
  z9 := Tryz.sizeOf9
  v9 := Tryz.zeroValue9
  t26 := Tryz.underlying33
  a26 := Tryz.isAgg33
  z26 := Tryz.sizeOf33
  v26 := Tryz.zeroValue33
  t27 := Tryz.underlying33
  a27 := Tryz.isAgg33
  z27 := Tryz.sizeOf33
  v27 := Tryz.zeroValue33
  t29 := Tryz.underlying9
  a29 := Tryz.isAgg9
  z29 := Tryz.sizeOf9
  v29 := Tryz.zeroValue9
  t32 := Tryz.underlying234
  a32 := Tryz.isAgg234
  z32 := Tryz.sizeOf234
  v32 := Tryz.zeroValue234
  t35 := Tryz.underlying620
  a35 := Tryz.isAgg620
  z35 := Tryz.sizeOf620
  v35 := Tryz.zeroValue620
  t36 := Tryz.underlying621
  a36 := Tryz.isAgg621
  z36 := Tryz.sizeOf621
  v36 := Tryz.zeroValue621
  t41 := Tryz.underlying625
  a41 := Tryz.isAgg625
  z41 := Tryz.sizeOf625
  v41 := Tryz.zeroValue625
  t44 := Tryz.underlying358
  a44 := Tryz.isAgg358
  z44 := Tryz.sizeOf358
  v44 := Tryz.zeroValue358
  t46 := Tryz.underlying361
  a46 := Tryz.isAgg361
  z46 := Tryz.sizeOf361
  v46 := Tryz.zeroValue361
  t53 := Tryz.underlying726
  a53 := Tryz.isAgg726
  z53 := Tryz.sizeOf726
  v53 := Tryz.zeroValue726
  t57 := Tryz.underlying538
  a57 := Tryz.isAgg538
  z57 := Tryz.sizeOf538
  v57 := Tryz.zeroValue538
  t63 := Tryz.underlying796
  a63 := Tryz.isAgg796
  z63 := Tryz.sizeOf796
  v63 := Tryz.zeroValue796
  t64 := Tryz.underlying130
  a64 := Tryz.isAgg130
  z64 := Tryz.sizeOf130
  v64 := Tryz.zeroValue130 }
end Go.Proofs
end
section
namespace Go.Vm
open Go.Proofs Go.RowKit Go.Maps Go.Sort Go.Shelf
set_option maxRecDepth 100000

/-! ### functions without bodies -/
theorem names_ok : (Tryz.prog.funcs.toList.zipIdx.all fun x => x.1.body.isSome || Nat.beq x.2 237 || !(x.1.name == "internal/abi.NoEscape")) = true := by kernel_rfl
theorem noEsc_237 : Tryz.prog.funcs[237]? = some Tryz.f237 := by kernel_rfl
theorem next_237 : (Extern.findNext Tryz.f237).isNone = true := by kernel_rfl
theorem find_237 : Extern.find Tryz.f237 = some Extern.AbiNoEscape.same := by kernel_rfl
theorem noEsc (f : FuncId) (fn : Func) (x : Value) (w : World) (hf : Tryz.prog.funcs[f]? = some fn) (hb : fn.body = none) (hn : fn.name = "internal/abi.NoEscape") : (callFunc f #[x]).run Tryz.prog w = .ok (.value x) w := by
  have hm : (fn, f) ∈ Tryz.prog.funcs.toList.zipIdx := by
    rw [List.mem_zipIdx_iff_getElem?]
    simpa using hf
  have h1 := List.all_eq_true.1 names_ok _ hm
  have h2 : (fn.name == "internal/abi.NoEscape") = true := by simp [hn]
  simp only [hb, h2, Option.isSome_none, Bool.false_or, Bool.not_true, Bool.or_false] at h1
  have h3 : f = 237 := Nat.eq_of_beq_eq_true h1
  subst h3
  have h4 := noEsc_237
  rw [h4] at hf
  cases hf
  rw [run_callFunc_extern h4 (by rw [hn]; decide) (by rw [hb]; rfl) (by simpa using next_237) find_237]
  rfl
theorem env0 : EnvOK E0 := ⟨fun f fn x w h1 h2 h3 => noEsc f fn x w h1 h2 h3⟩
theorem env1 : EnvOK E1 := ⟨fun f fn x w h1 h2 h3 => noEsc f fn x w h1 h2 h3⟩
theorem mixed0 : E0.P.follows .mixedOrders = true := by kernel_rfl
theorem mixed1 : E1.P.follows .mixedOrders = true := mixed0
theorem fe0 : FOK F0 := fe_ok E0 12 12
theorem fe1 : FOK F1 := fe_ok E1 12 12

/-! ### the tables that a world holds -/
structure Tabs (W : World) : Prop where
  size : 11 ≤ W.heap.size
  space : ∃ C, W.heap[2]? = some (.cells C 776 (0, 0)) ∧ ∀ σ, RVs σ spaceL C.toList
theorem spaceH_get (g : Pos) (o : Obj) (h : spaceH.get g = some o) : g = nk 2 ∧ o = .row spaceL 776 := by
  unfold spaceH at h
  rw [T.get_set] at h
  split at h
  · rename_i e; cases h; exact ⟨e.symm, rfl⟩
  · cases h
theorem Tabs.old {W : World} (h : Tabs W) : Old 11 W spaceH := by
  intro g o ho
  obtain ⟨rfl, rfl⟩ := spaceH_get g o ho
  obtain ⟨C, h1, h2⟩ := h.space
  have hv : (nk 2).val = 3 := nk_val 2
  exact ⟨by omega, spaceL, 776, C, rfl, by rw [hv]; exact h1, h2 _⟩
theorem Tabs.later {W w : World} {σ : Sig} {h : T Obj} {next : Pos} (hT : Tabs W) (H : WR W 11 σ h next w) : Tabs w := by
  obtain ⟨C, h1, h2⟩ := hT.space
  have := hT.size
  exact ⟨Nat.le_trans hT.size H.size, C, by rw [H.old 2 (by omega)]; exact h1, h2⟩

theorem RVs.strs {σ σ' : Sig} : ∀ {l : List AV} {vs : List Value}, (l.all fun x => match x with | .str _ => true | _ => false) = true → RVs σ l vs → RVs σ' l vs
  | [], _, _, h => by rw [RVs.nil_inv h]; exact RVs.nil
  | x :: l, vs, ha, h => by
    obtain ⟨v, vs', rfl, h1, h2⟩ := RVs.cons_inv h
    rw [List.all_cons, Bool.and_eq_true] at ha
    refine RVs.cons ?_ (RVs.strs ha.2 h2)
    cases x <;> first
      | (have := ha.1; cases this; done)
      | (simp only [RV] at h1 ⊢; exact h1)

/-! ### lex.Words -/
noncomputable section
def W0s : St := ⟨wF, wC, layH wK wO, wN⟩
def onS (r : Option Out) : St := match r with
  | some (.on s) => s
  | some (.done _ s) => s
  | none => default
def W1s : St := onS (runA E0 1 W0s)
def W2s : St := onS (stepA E0 W1s)
def wgP : Pos := nk 18
theorem w0F_enter : enterA E0.P 412 [] false = some w0F := by kernel_rfl
theorem W1_run : runA E0 1 W0s = some (.on W1s) := by kernel_rfl
theorem W2_done : stepA E0 W1s = some (.done (.slice wgP 0 0 29 (some 29) 1) W2s) := by kernel_rfl
theorem W1_def : W1s.fr.deferred = false := by kernel_rfl
theorem W1_cells : getCells W1s.h wgP 0 0 29 = some wordsL := by kernel_rfl
def arrParts (o : Option Obj) : Option (T (AV × Nat) × Nat × List Nat × Nat × TypeId) := match o with
  | some (.arr t l e f x) => some (t, l, e, f, x)
  | _ => none
def isArr (o : Option Obj) (e : TypeId) : Bool := match o with
  | some (.arr _ _ _ 0 x) => Nat.beq x e
  | _ => false
theorem isArr_inv {o : Option Obj} {e : TypeId} (h : isArr o e = true) : ∃ t l es, o = some (.arr t l es 0 e) := by
  unfold isArr at h
  split at h
  · rename_i t l es x
    have := Nat.eq_of_beq_eq_true h
    subst this
    exact ⟨t, l, es, rfl⟩
  · cases h
theorem W1_arr : isArr (W1s.h.get wgP) 9 = true := by kernel_rfl
end
theorem hook_none {W0 : World} : HookOK E0 W0 := fun f k h => by cases h
theorem words_ok {W0 : World} (hT : Tabs W0) (σ : Sig) (h : T Obj) (next : Pos) (w : World) (args : List AV) (us : List Value) (l : List AV) (elem : TypeId) (cs : List Frame) (H : WR W0 11 σ h next w) (ha : RVs σ args us) (hk : wordsHook args h = some (l, elem)) :
    ∃ (fr : Frame) (w1 : World) (b off cap : Nat) (C : Array Value), Steps Tryz.prog (lone (Frame.enter Tryz.prog 412 us.toArray .normal) cs w) (lone fr cs w1) ∧ fr.leaving Tryz.prog w1 (.returned (.slice (some ⟨b, off, none⟩) (len l) cap)) ∧ RowKit.Below w.heap.size w w1 ∧
    w.heap.size ≤ b ∧ w1.heap[b]? = some (.cells C elem (0, 0)) ∧ len l ≤ cap ∧ off + cap ≤ C.size ∧ RVs (fun _ _ => none) l ((C.toList.drop off).take (len l)) := by
  unfold wordsHook at hk
  split at hk
  · cases hk
    have := RVs.nil_inv ha
    subst this
    have hTw := hT.later H
    have hlen : len wordsL = 29 := by kernel_rfl
    have hst : Stands E0 w cs { fr := w0F, cs := [], h := spaceH, next := nk 18 } (lone (Frame.enter Tryz.prog 412 #[] .normal) cs w) :=
      init_stands (E := E0) (us := []) hTw.size (by show 11 < (nk 18).val; rw [nk_val]; omega) hTw.old RVs.nil w0F_enter
    obtain ⟨m1, g1, g2⟩ := stretch fe0 env0 hook_none mixed0 w_run hst
    obtain ⟨m2, g3, g4⟩ := run_sound env0 hook_none (draw_ok env0 hook_none mixed0 cs) 1 W0s W1s m1 g2 W1_run
    obtain ⟨σ', f, w1, u, rfl, k1, k2, k3, k4⟩ := done_sound g4 W2_done W1_def
    simp only [RV] at k3
    obtain ⟨a, cap', rfl, hn, hcap, L, hL, hL0, hcase⟩ := k3
    have hcap29 := hcap 29 rfl
    subst hcap29
    have hL00 : L.c0 = 0 := by omega
    obtain ⟨haddr, hlim⟩ : a = L.addr 0 ∧ L.off + (0 - L.c0) + 29 * 1 ≤ L.lim := by
      rcases hcase with ⟨h1, _⟩ | h1
      · omega
      · exact h1
    obtain ⟨t, la, es, harr⟩ := isArr_inv W1_arr
    obtain ⟨e, c, fz, q1, q2, q3, q4, q5, q6, q7⟩ := k4.obj _ _ _ _ hL harr
    have hfz := q6 rfl
    subst hfz
    obtain ⟨vals, p1, p2, p3, p4, _⟩ := getCells_sound k4 hL (by omega) W1_cells
    refine ⟨f, w1, L.blk, L.off, 29, c, Steps.trans g1 g3, ?_, ⟨k4.os, k4.tape, k4.output, k4.size, k4.old⟩, ?_, q2, by rw [hlen]; omega, by omega, ?_⟩
    · rw [hlen]
      rw [haddr] at k1
      simp only [Loc.addr, hL00, Nat.sub_zero, Nat.add_zero] at k1
      exact k1
    · exact (k4.loc _ _ _ hL).2.1 (by show 11 < (nk 18).val; rw [nk_val]; omega)
    · rw [hlen]
      have hv : (c.toList.drop L.off).take 29 = vals := by
        apply List.ext_getElem?
        intro j
        by_cases hj : j < 29
        · rw [List.getElem?_take, if_pos hj, List.getElem?_drop]
          have hjv : j < vals.length := by omega
          have h1 := p3 j vals[j] (List.getElem?_eq_getElem hjv)
          rw [List.getElem?_eq_getElem hjv]
          rw [Loc.addr_add, hL00] at h1
          simp only [World.cell?, q2] at h1
          rw [Array.getElem?_toList]
          simpa using h1
        · rw [List.getElem?_eq_none (by simp; omega), List.getElem?_eq_none (by omega)]
      rw [hv]
      exact RVs.strs (by kernel_rfl) p1
  · cases hk
end Go.Vm
end
section
namespace Go.Vm
open Go.Proofs Go.RowKit Go.Maps Go.Sort Go.Shelf Go.WideElems
set_option maxRecDepth 100000

def keysB : List (List UInt8) := [[97, 98, 115], [115, 105, 103, 110], [101, 110, 116, 105, 101, 114], [105, 110, 105, 110, 116], [111, 117, 116, 105, 110, 116, 101, 103, 101, 114], [111, 117, 116, 114, 101, 97, 108], [111, 117, 116, 98, 111, 111, 108, 101, 97, 110], [111, 117, 116, 115, 116, 114, 105, 110, 103]]
def stdB : List (List UInt8) := [[97, 98, 115], [101, 110, 116, 105, 101, 114], [105, 110, 105, 110, 116], [111, 117, 116, 98, 111, 111, 108, 101, 97, 110], [111, 117, 116, 105, 110, 116, 101, 103, 101, 114], [111, 117, 116, 114, 101, 97, 108], [111, 117, 116, 115, 116, 114, 105, 110, 103], [115, 105, 103, 110]]
theorem keysB_eq : keysL = keysB.map fun b => AV.str (encS ⟨b.toArray⟩) := by kernel_rfl
theorem stdB_eq : stdL = stdB.map fun b => AV.str (encS ⟨b.toArray⟩) := by kernel_rfl
theorem stdB_len : stdB.length = 8 := rfl
theorem stdB_sorted : stdB.Pairwise fun a b => leB a b = true := by decide
theorem keys_sorted : strKeys (DataW.map ((keysB.map fun b => (Lit.string b, (DataW.nil : DataW Unit))).foldr DataW.insert [])) = stdB := by kernel_rfl
theorem keys_of_MR {σ : Sig} : ∀ {ks : List (List UInt8)} {es : List (AV × AV)} {l : List MapEntry}, MR σ es l → (es.map fun x => x.1) = (ks.map fun b => AV.str (encS ⟨b.toArray⟩)) → l.map (·.key) = ks.map encStr
  | [], es, l, h, e => by
    cases es with
    | nil => simp only [MR] at h; subst h; rfl
    | cons a es => simp at e
  | b :: ks, es, l, h, e => by
    cases es with
    | nil => simp at e
    | cons a es =>
      obtain ⟨x, l', rfl, h1, h2, h3⟩ := h
      simp only [List.map_cons, List.cons.injEq] at e
      rw [e.1] at h1
      simp only [RV] at h1
      obtain ⟨t, ht, hte⟩ := h1
      have := encS_inj hte
      subst this
      rw [List.map_cons, List.map_cons, ht, keys_of_MR h3 e.2]
theorem str_RVs {σ : Sig} : ∀ ks : List (List UInt8), RVs σ (ks.map fun b => AV.str (encS ⟨b.toArray⟩)) (ks.map encStr)
  | [] => RVs.nil
  | b :: ks => RVs.cons (by simp only [RV]; exact ⟨_, rfl, rfl⟩) (str_RVs ks)
theorem sorts353 (m : Nat) : AnyZ.SortsIn Tryz.prog Tryz.sorted353_ren Fence.wide m :=
  ⟨fun blk off cap ss W hH hblk hsz => callsIn_wide.2 (AnyM.slices_Sort_string Tryz.sort436 blk off cap ss W hH hblk hsz),
   fun p cap W => callsIn_wide.2 (AnyM.slices_Sort_string_none Tryz.sort436 p cap W)⟩
theorem sort_ok {W0 : World} (σ : Sig) (h : T Obj) (next : Pos) (w : World) (args : List AV) (us : List Value) (l : List AV) (elem : TypeId) (cs : List Frame) (H : WR W0 11 σ h next w) (ha : RVs σ args us) (hk : sortHook args h = some (l, elem)) :
    ∃ (fr : Frame) (w1 : World) (b off cap : Nat) (C : Array Value), Steps Tryz.prog (lone (Frame.enter Tryz.prog 353 us.toArray .normal) cs w) (lone fr cs w1) ∧ fr.leaving Tryz.prog w1 (.returned (.slice (some ⟨b, off, none⟩) (len l) cap)) ∧ RowKit.Below w.heap.size w w1 ∧
    w.heap.size ≤ b ∧ w1.heap[b]? = some (.cells C elem (0, 0)) ∧ len l ≤ cap ∧ off + cap ≤ C.size ∧ RVs (fun _ _ => none) l ((C.toList.drop off).take (len l)) := by
  unfold sortHook at hk
  split at hk
  · rename_i f g
    split at hk
    · rename_i mg e0 hf hg
      split at hk
      · rename_i es hes
        split at hk
        · rename_i hkeys
          cases hk
          have hf' : f = 437 := Nat.eq_of_beq_eq_true hf
          subst hf'
          have hkl := AV.eq_of_beqs _ _ hkeys
          -- the argument
          obtain ⟨u, vs, rfl, hu, hvs⟩ := RVs.cons_inv ha
          have := RVs.nil_inv hvs
          subst this
          simp only [RV] at hu
          obtain ⟨xs, ys, rfl, _, hxs, hys⟩ := hu
          have := RVs.nil_inv hxs
          subst this
          obtain ⟨pv, vs, rfl, hpv, hvs⟩ := RVs.cons_inv hys
          have := RVs.nil_inv hvs
          subst this
          simp only [RV] at hpv
          obtain ⟨L, hL, _, rfl⟩ := hpv
          obtain ⟨_, ho, hc0, c, hblk, hcs, hrow⟩ := H.obj _ _ _ _ hL hg
          obtain ⟨mv, vs, hcl, hmv, hvs⟩ := RVs.cons_inv hrow
          have := RVs.nil_inv hvs
          subst this
          simp only [RV] at hmv
          obtain ⟨Lm, hLm, rfl⟩ := hmv
          obtain ⟨_, ls, ck, hmap, hmr, hst, _, _⟩ := H.obj _ _ _ _ hLm hes
          have hbl := (H.loc _ _ _ hL).1
          have haddr : L.addr 0 = ⟨L.blk, 0, none⟩ := by simp only [Loc.addr, ho, hc0]
          have hcell : w.cell? ⟨L.blk, 0, none⟩ = some (.map (some Lm.blk)) := by
            have : c[0]? = some (.map (some Lm.blk)) := by rw [← Array.getElem?_toList, hcl]; rfl
            simp only [World.cell?, hblk]
            simpa using this
          -- the map's keys
          have hkk : ls.toList.map (·.key) = keysB.map encStr := keys_of_MR hmr (by rw [hkl, keysB_eq])
          have hsz : ls.size = 8 := by
            have := congrArg List.length hkk
            simpa [keysB] using this
          have hu9 : Tryz.prog.underlying 9 = some .string := by kernel_rfl
          have hlen : ∀ b ∈ keysB, b.length ≤ 10 := by decide
          have hrd : ∀ x ∈ ls.toList, ∃ b, b ∈ keysB ∧ x.key = encStr b ∧ keyOf Tryz.prog 9 x.key = some (.string b) := by
            intro x hx
            have hm : x.key ∈ keysB.map encStr := by rw [← hkk]; exact List.mem_map.2 ⟨x, hx, rfl⟩
            obtain ⟨b, hb, hbe⟩ := List.mem_map.1 hm
            refine ⟨b, hb, hbe.symm, ?_⟩
            rw [← hbe]
            have h10 := hlen b hb
            have : (⟨b.toArray⟩ : ByteArray).size ≤ maxLen := by
              show b.toArray.size ≤ maxLen
              rw [List.size_toArray]
              exact Nat.le_trans h10 (by decide)
            simp [keyOf, hu9, mapKey, encStr, this]
          have hown : w.ownsMap Tryz.prog 9 (fun _ => some ((DataW.nil : DataW Unit), [])) Lm.blk 8 (DataW.map ((ls.toList.map (rg Tryz.prog 9 fun _ => some ((DataW.nil : DataW Unit), []))).foldr DataW.insert [])) := by
            refine ⟨ls, ck, hmap, ⟨by rw [hsz]; decide, hst, fun x hx => ?_⟩, by omega, rfl⟩
            obtain ⟨b, _, _, hb⟩ := hrd x hx
            exact ⟨(.string b, .nil), by simp [WideElems.rd, hb]⟩
          have hrg : ls.toList.map (rg Tryz.prog 9 fun _ => some ((DataW.nil : DataW Unit), [])) = keysB.map fun b => (Lit.string b, (DataW.nil : DataW Unit)) := by
            have aux : ∀ (l : List MapEntry) (ks : List (List UInt8)), (∀ x ∈ l, ∃ b, b ∈ keysB ∧ x.key = encStr b ∧ keyOf Tryz.prog 9 x.key = some (.string b)) → l.map (·.key) = ks.map encStr →
                l.map (rg Tryz.prog 9 fun _ => some ((DataW.nil : DataW Unit), [])) = ks.map fun b => (Lit.string b, (DataW.nil : DataW Unit)) := by
              intro l
              induction l with
              | nil => intro ks _ e; cases ks with
                | nil => rfl
                | cons _ _ => simp at e
              | cons x l ih => intro ks hl e; cases ks with
                | nil => simp at e
                | cons b ks =>
                  simp only [List.map_cons, List.cons.injEq] at e ⊢
                  obtain ⟨b', _, h1, h2⟩ := hl x (List.mem_cons_self ..)
                  have : b' = b := encStr_inj (h1.symm.trans e.1)
                  subst this
                  refine ⟨?_, ih ks (fun y hy => hl y (List.mem_cons_of_mem _ hy)) e.2⟩
                  simp [rg, WideElems.rd, h2]
            exact aux _ _ hrd hkk
          rw [hrg] at hown
          have hsize : Maps.size (DataW.map ((keysB.map fun b => (Lit.string b, (DataW.nil : DataW Unit))).foldr DataW.insert [])) = 8 := by kernel_rfl
          have hseq : SeqGives Fence.wide 2 Tryz.prog 437 #[.pointer (some ⟨L.blk, 0, none⟩)] encStr (fun ss => ss.Perm (strKeys (DataW.map ((keysB.map fun b => (Lit.string b, (DataW.nil : DataW Unit))).foldr DataW.insert [])))) (Maps.size (DataW.map ((keysB.map fun b => (Lit.string b, (DataW.nil : DataW Unit))).foldr DataW.insert []))) w :=
            AnyZ.keys_gives (ρ := Tryz.keys354_ren) { Tryz.keys354 with } Fence.wide _ trivial rfl (by omega) L.blk Lm.blk 8 _ w hbl hcell hown
          have hcalls := AnyZ.sorted_in Tryz.sorted353 Fence.wide 5 trivial trivial trivial trivial rfl (by omega) (sorts353 _) (enters_of Tryz.func436 (by kernel_rfl) rfl) 437 #[.pointer (some ⟨L.blk, 0, none⟩)] trivial (enters_of Tryz.func437 (by kernel_rfl) rfl) _ _
            (by rw [hsize]; decide) (by rw [hsize]; decide) w hseq
          obtain ⟨e, w1, fr, ⟨v, ss, rfl, hperm, hrow1, _, hbelow⟩, hcomes, _, hleave⟩ := callsIn_wide.1 hcalls cs
          rw [keys_sorted] at hperm
          have hss : ss.mergeSort (fun x y => decide (x ≤ y)) = stdB := (mergeSort_of_perm hperm).trans (List.mergeSort_of_pairwise stdB_sorted)
          have hsl : ss.length = 8 := by rw [hperm.length_eq, stdB_len]
          rw [hss] at hrow1
          obtain ⟨_, hrow2⟩ := hrow1
          rcases hrow2 with ⟨_, h0⟩ | ⟨gb, cap, cur, rfl, hgb, hcur, hncap, _, hcsz, htake⟩
          · omega
          · have hl8 : len stdL = 8 := by kernel_rfl
            refine ⟨fr, w1, gb, 0, cap, cur, ?_, ?_, hbelow, hgb, hcur, by rw [hl8]; omega, by omega, ?_⟩
            · rw [haddr]; exact hcomes
            · rw [hl8]; rw [hsl] at hleave; exact hleave
            · rw [hl8, List.drop_zero]
              rw [hsl] at htake
              have : cur.toList.take 8 = stdB.map encStr := by simpa using htake
              rw [this, stdB_eq]
              exact str_RVs stdB
        · cases hk
      · cases hk
    · cases hk
  · cases hk
theorem hooks_ok {W0 : World} (hT : Tabs W0) : HookOK E1 W0 := by
  intro f k hf σ h next w args us l elem cs H ha hk
  have hh : hookOf f [(412, wordsHook), (353, sortHook)] = some k := hf
  simp only [hookOf] at hh
  split at hh
  · rename_i hq
    have := Nat.eq_of_beq_eq_true hq
    subst this
    cases hh
    exact words_ok hT σ h next w args us l elem cs H ha hk
  · split at hh
    · rename_i hq
      have := Nat.eq_of_beq_eq_true hq
      subst this
      cases hh
      exact sort_ok σ h next w args us l elem cs H ha hk
    · cases hh
end Go.Vm
end
