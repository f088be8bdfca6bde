/- DebugBack returns true for every list, index and number, and changes nothing that lay before. No conditions. Part Walk. -/
import Derived.Test.YtnlkhnbbkjejkaaGreatDoorRows
import Derived.WalkKit
import Derived.WalkSpells
import Derived.WalkLawsBesides
import Derived.Shelf.SlicesQ.IndexFunc
import Derived.Lib.SliceRun
set_option linter.unusedSimpArgs false
set_option linter.unusedVariables false
section
namespace Go.Proofs.YtnlkhnbbkjejkaaGreatDoor
open Go.RowKit Go.Lib Go.Proofs

/-- A moment: its statement, and the rest. -/
structure Mom where
  st : Int
  v1 : Value
  v2 : Value
  v3 : Value
instance : Inhabited Mom := ⟨⟨0, .nilFunc, .nilFunc, .nilFunc⟩⟩
def encM (x : Mom) : List Value := [.int .i64 x.st, x.v1, x.v2, x.v3]

/-- begins' closure. -/
theorem begins1 (lim : Int) (B : Nat) (w : World) (hB : B < w.heap.size) (hcell : w.cell? ⟨B, 0, none⟩ = some (.int .i64 lim)) :
    PredBelow Tryz.prog 29 #[.pointer (some ⟨B, 0, none⟩)] (fun x => .agg (encM x).toArray) (fun x => x.st == lim) w := fun W x hb => by
  have hc : W.cell? ⟨B, 0, none⟩ = some (.int .i64 lim) := (hb.cell (p := ⟨B, 0, none⟩) hB).trans hcell
  have hBW : B < W.heap.size := Nat.lt_of_lt_of_le hB hb.size
  have hne : B ≠ W.heap.size := by omega
  show Calls Tryz.prog 29 #[.agg #[.int .i64 x.st, x.v1, x.v2, x.v3], .pointer (some ⟨B, 0, none⟩)] W _
  go_enter Tryz.func29, Tryz.ntmps29
  go_wp2
  all_goals (go_ret; exact ⟨by simp_all, hb.alloc hb.size _⟩)



set_option maxHeartbeats 2000000 in
theorem first_up (p : Mom → Bool) (lb : Array Value) (b off n c : Nat) (zs : List Mom) (f : Nat) (w : World) (hp : PredBelow Tryz.prog 29 lb (fun x => .agg (encM x).toArray) p w) (hz : n ≤ zs.length) (hbig : n ≤ 9223372036854775806) (hf : f ≤ n) (hb : b < w.heap.size)
    (hc : ∀ j, j < zs.length → ∀ i v, (encM zs[j]!)[i]? = some v → w.cell? ⟨b, off + j * 4 + i, none⟩ = some v) :
    Calls Tryz.prog 13 #[.slice (some ⟨b, off, none⟩) n c, .int .i64 f, .int .i64 1, .func (.func 29) #[] lb] w fun e w' => ∃ v, e = .returned v ∧
      ((∃ j, f ≤ j ∧ j < n ∧ p zs[j]! = true ∧ (∀ i, f ≤ i → i < j → p zs[i]! = false) ∧ v = .tuple #[.int .i64 j, .int .i64 0]) ∨ ((∀ i, f ≤ i → i < n → p zs[i]! = false) ∧ v = .tuple #[.int .i64 0, .int .i64 5])) ∧ Below w.heap.size w w' := by
  have eg : ∀ args w, (callFunc 29 args).run Tryz.prog w = .ok (.enter 29 args) w := enters_of Tryz.func29 (by kernel_rfl) rfl
  have hrow : ∀ (W : World), Below w.heap.size w W → ∀ j, j < zs.length → W.cell? ⟨b, off + j * 4, none⟩ = some (.int .i64 zs[j]!.st) ∧ W.cell? ⟨b, off + j * 4 + 1, none⟩ = some zs[j]!.v1 ∧ W.cell? ⟨b, off + j * 4 + 2, none⟩ = some zs[j]!.v2 ∧ W.cell? ⟨b, off + j * 4 + 3, none⟩ = some zs[j]!.v3 := fun W hW j hj =>
    ⟨(hW.cell (p := ⟨b, off + j * 4, none⟩) hb).trans (hc j hj 0 _ rfl), (hW.cell (p := ⟨b, off + j * 4 + 1, none⟩) hb).trans (hc j hj 1 _ rfl), (hW.cell (p := ⟨b, off + j * 4 + 2, none⟩) hb).trans (hc j hj 2 _ rfl), (hW.cell (p := ⟨b, off + j * 4 + 3, none⟩) hb).trans (hc j hj 3 _ rfl)⟩
  clear hc
  go_enter Tryz.func13, Tryz.ntmps13
  go_wp2
  go_loopg [10] (n - f) (fun gg s10 wr => ∃ kk : Nat, f ≤ kk ∧ kk ≤ n ∧ n - kk ≤ gg ∧ s10 = .int .i64 kk ∧ Aside (Below w.heap.size w wr) ∧ Aside (∀ j, f ≤ j → j < kk → p zs[j]! = false))
  case atStart => exact ⟨f, Nat.le_refl _, hf, by omega, rfl, Below.refl _ w, fun j h1 h2 => absurd h2 (by omega)⟩
  case round =>
    obtain ⟨kk, hfk, hkk, hg, rfl, BW, A⟩ := hrel
    have hge : (kk : Int) ≥ 0 := by omega
    by_cases hlt : kk < n
    · have hltz : (kk : Int) < (n : Int) := by omega
      obtain ⟨l0, l1, l2, l3⟩ := hrow wr BW.out kk (by omega)
      have hcall : Calls Tryz.prog 29 (#[.agg #[.int .i64 zs[kk]!.st, zs[kk]!.v1, zs[kk]!.v2, zs[kk]!.v3]] ++ lb) wr fun e w' => e = .returned (.bool (p zs[kk]!)) ∧ Below w.heap.size w w' := hp wr zs[kk]! BW.out
      clear hrow hp
      generalize hy : zs[kk]! = y at l0 l1 l2 l3 hcall
      have B : Aside (zs[kk]! = y) := hy
      clear hy
      cases hq : p y with
      | true =>
        rw [hq] at hcall
        go_wp2_with (go_at_fn 29; refine hcall.mono ?_; rintro e w' ⟨rfl, hb'⟩)
        go_ret2
        exact ⟨_, rfl, .inl ⟨kk, hfk, hlt, by rw [B.out]; exact hq, A.out, rfl⟩, hb'⟩
      | false =>
        rw [hq] at hcall
        go_wp2_with (go_at_fn 29; refine hcall.mono ?_; rintro e w' ⟨rfl, hb'⟩)
        go_roundg (n - (kk + 1))
        case measure => omega
        case rel =>
          refine ⟨kk + 1, by omega, by omega, by omega, by go_num, hb', (show Aside _ from fun j hj1 hj2 => ?_)⟩
          by_cases e : j = kk
          · subst e
            rw [B.out]; exact hq
          · exact A.out j hj1 (by omega)
    · have hltz : ¬ (kk : Int) < (n : Int) := by omega
      have : kk = n := by omega
      subst this
      go_wp2
      go_ret2
      exact ⟨_, rfl, .inr ⟨fun i h1 h2 => by have := A.out i h1 h2; simpa using this, rfl⟩, BW.out⟩

set_option maxHeartbeats 2000000 in
theorem first_down (p : Mom → Bool) (lb : Array Value) (b off n c : Nat) (zs : List Mom) (f : Nat) (w : World) (hp : PredBelow Tryz.prog 29 lb (fun x => .agg (encM x).toArray) p w) (hz : n ≤ zs.length) (hbig : n ≤ 9223372036854775806) (hf : f ≤ n) (hb : b < w.heap.size)
    (hc : ∀ j, j < zs.length → ∀ i v, (encM zs[j]!)[i]? = some v → w.cell? ⟨b, off + j * 4 + i, none⟩ = some v) :
    Calls Tryz.prog 13 #[.slice (some ⟨b, off, none⟩) n c, (.int .i64 ((f : Int) - 1)), .int .i64 (-1), .func (.func 29) #[] lb] w fun e w' => ∃ v, e = .returned v ∧
      ((∃ j, j < f ∧ p zs[j]! = true ∧ (∀ i, j < i → i < f → p zs[i]! = false) ∧ v = .tuple #[.int .i64 j, .int .i64 0]) ∨ ((∀ i, i < f → p zs[i]! = false) ∧ v = .tuple #[.int .i64 0, .int .i64 5])) ∧ Below w.heap.size w w' := by
  have eg : ∀ args w, (callFunc 29 args).run Tryz.prog w = .ok (.enter 29 args) w := enters_of Tryz.func29 (by kernel_rfl) rfl
  have hrow : ∀ (W : World), Below w.heap.size w W → ∀ j, j < zs.length → W.cell? ⟨b, off + j * 4, none⟩ = some (.int .i64 zs[j]!.st) ∧ W.cell? ⟨b, off + j * 4 + 1, none⟩ = some zs[j]!.v1 ∧ W.cell? ⟨b, off + j * 4 + 2, none⟩ = some zs[j]!.v2 ∧ W.cell? ⟨b, off + j * 4 + 3, none⟩ = some zs[j]!.v3 := fun W hW j hj =>
    ⟨(hW.cell (p := ⟨b, off + j * 4, none⟩) hb).trans (hc j hj 0 _ rfl), (hW.cell (p := ⟨b, off + j * 4 + 1, none⟩) hb).trans (hc j hj 1 _ rfl), (hW.cell (p := ⟨b, off + j * 4 + 2, none⟩) hb).trans (hc j hj 2 _ rfl), (hW.cell (p := ⟨b, off + j * 4 + 3, none⟩) hb).trans (hc j hj 3 _ rfl)⟩
  clear hc
  go_enter Tryz.func13, Tryz.ntmps13
  go_wp2
  go_loopg [10] f (fun gg s10 wr => ∃ kk : Nat, kk ≤ f ∧ kk ≤ gg ∧ s10 = .int .i64 ((kk : Int) - 1) ∧ Aside (Below w.heap.size w wr) ∧ Aside (∀ j, kk ≤ j → j < f → p zs[j]! = false))
  case atStart => exact ⟨f, Nat.le_refl _, Nat.le_refl _, rfl, Below.refl _ w, fun j h1 h2 => absurd h2 (by omega)⟩
  case round =>
    obtain ⟨kk, hkf, hg, rfl, BW, A⟩ := hrel
    cases kk with
    | succ kk =>
      have e1 : (((kk + 1 : Nat) : Int) - 1) = (kk : Int) := by omega
      rw [e1]
      have hge : (kk : Int) ≥ 0 := by omega
      have hlt : kk < n := by omega
      have hltz : (kk : Int) < (n : Int) := by omega
      obtain ⟨l0, l1, l2, l3⟩ := hrow wr BW.out kk (by omega)
      have hcall : Calls Tryz.prog 29 (#[.agg #[.int .i64 zs[kk]!.st, zs[kk]!.v1, zs[kk]!.v2, zs[kk]!.v3]] ++ lb) wr fun e w' => e = .returned (.bool (p zs[kk]!)) ∧ Below w.heap.size w w' := hp wr zs[kk]! BW.out
      clear hrow hp
      generalize hy : zs[kk]! = y at l0 l1 l2 l3 hcall
      have B : Aside (zs[kk]! = y) := hy
      clear hy
      cases hq : p y with
      | true =>
        rw [hq] at hcall
        go_wp2_with (go_at_fn 29; refine hcall.mono ?_; rintro e w' ⟨rfl, hb'⟩)
        go_ret2
        exact ⟨_, rfl, .inl ⟨kk, by omega, by rw [B.out]; exact hq, fun i h1 h2 => A.out i (by omega) h2, rfl⟩, hb'⟩
      | false =>
        rw [hq] at hcall
        go_wp2_with (go_at_fn 29; refine hcall.mono ?_; rintro e w' ⟨rfl, hb'⟩)
        go_roundg kk
        case measure => omega
        case rel =>
          refine ⟨kk, by omega, by omega, by go_num, hb', (show Aside _ from fun j hj1 hj2 => ?_)⟩
          by_cases e : j = kk
          · subst e
            rw [B.out]; exact hq
          · exact A.out j (by omega) hj2
    | zero =>
      have hneg : ¬ (((0 : Nat) : Int) - 1) ≥ 0 := by omega
      go_wp2
      go_ret2
      exact ⟨_, rfl, .inr ⟨fun i h2 => by have := A.out i (Nat.zero_le _) h2; simpa using this, rfl⟩, BW.out⟩

end Go.Proofs.YtnlkhnbbkjejkaaGreatDoor
end
section
namespace Go.Proofs.YtnlkhnbbkjejkaaGreatDoor
open Go.RowKit Go.Lib Go.Proofs

theorem begins_any (st : Int) (w : World) : Calls Tryz.prog 14 #[.int .i64 st] w fun e w' => e = .returned (.func (.func 29) #[] #[.pointer (some ⟨w.heap.size, 0, none⟩)]) ∧ w' = w.alloc (.cells #[.int .i64 st] 3) := by
  go_enter Tryz.func14, Tryz.ntmps14
  go_wp2
  go_ret
  exact ⟨rfl, rfl⟩

set_option maxHeartbeats 1000000 in
theorem forward (b off n c : Nat) (zs : List Mom) (f : Nat) (st : Int) (w : World) (hz : n ≤ zs.length) (hbig : n ≤ 9223372036854775806) (hf : f ≤ n) (hb : b < w.heap.size)
    (hc : ∀ j, j < zs.length → ∀ i v, (encM zs[j]!)[i]? = some v → w.cell? ⟨b, off + j * 4 + i, none⟩ = some v) :
    Calls Tryz.prog 5 #[.slice (some ⟨b, off, none⟩) n c, .int .i64 f, .int .i64 st] w fun e w' => ∃ v, e = .returned v ∧
      ((∃ j, f ≤ j ∧ j < n ∧ (zs[j]!.st == st) = true ∧ (∀ i, f ≤ i → i < j → (zs[i]!.st == st) = false) ∧ v = .tuple #[.int .i64 j, .int .i64 0]) ∨ ((∀ i, f ≤ i → i < n → (zs[i]!.st == st) = false) ∧ v = .tuple #[.int .i64 0, .int .i64 5])) ∧ Below w.heap.size w w' := by
  have hcon := first_up (fun x => x.st == st) #[.pointer (some ⟨w.heap.size, 0, none⟩)] b off n c zs f (w.alloc (.cells #[.int .i64 st] 3)) (begins1 st w.heap.size _ (by simp) (by simp)) hz hbig hf (by simp; omega)
    (fun j hj i v hi => Lib.cell?_alloc_some _ (hc j hj i v hi))
  clear hc
  have h1 : ¬ (f : Int) < 0 := by omega
  have h2 : ¬ (f : Int) > (n : Int) := by omega
  go_enter Tryz.func5, Tryz.ntmps5
  go_wp2_with (first | (go_at_call 14; refine (begins_any st w).mono ?_; rintro e w' ⟨rfl, rfl⟩) | (go_at_call 13; refine hcon.mono ?_; rintro e w' ⟨v, rfl, hv, hb'⟩; rcases hv with ⟨j, hj1, hj2, hj3, hj4, rfl⟩ | ⟨hj4, rfl⟩))
  all_goals (go_ret2; refine ⟨_, rfl, ?_, ((Below.refl _ w).alloc (Nat.le_refl _) _).trans (hb'.mono (by simp))⟩)
  · exact .inl ⟨j, hj1, hj2, hj3, hj4, rfl⟩
  · exact .inr ⟨hj4, rfl⟩

set_option maxHeartbeats 1000000 in
theorem backward (b off n c : Nat) (zs : List Mom) (f : Nat) (st : Int) (w : World) (hz : n ≤ zs.length) (hbig : n ≤ 9223372036854775806) (hf : f ≤ n) (hb : b < w.heap.size)
    (hc : ∀ j, j < zs.length → ∀ i v, (encM zs[j]!)[i]? = some v → w.cell? ⟨b, off + j * 4 + i, none⟩ = some v) :
    Calls Tryz.prog 6 #[.slice (some ⟨b, off, none⟩) n c, .int .i64 f, .int .i64 st] w fun e w' => ∃ v, e = .returned v ∧
      ((∃ j, j < f ∧ (zs[j]!.st == st) = true ∧ (∀ i, j < i → i < f → (zs[i]!.st == st) = false) ∧ v = .tuple #[.int .i64 j, .int .i64 0]) ∨ ((∀ i, i < f → (zs[i]!.st == st) = false) ∧ v = .tuple #[.int .i64 0, .int .i64 5])) ∧ Below w.heap.size w w' := by
  have hcon := first_down (fun x => x.st == st) #[.pointer (some ⟨w.heap.size, 0, none⟩)] b off n c zs f (w.alloc (.cells #[.int .i64 st] 3)) (begins1 st w.heap.size _ (by simp) (by simp)) hz hbig hf (by simp; omega)
    (fun j hj i v hi => Lib.cell?_alloc_some _ (hc j hj i v hi))
  clear hc
  have h1 : ¬ (f : Int) < 0 := by omega
  have h2 : ¬ (f : Int) > (n : Int) := by omega
  have h3 : IntKind.wrap .i64 ((f : Int) - 1) = (f : Int) - 1 := by
    exact Go.IntWalk.i64_in _ ⟨by omega, by omega⟩
  go_enter Tryz.func6, Tryz.ntmps6
  go_wp2_with (first | (go_at_call 14; refine (begins_any st w).mono ?_; rintro e w' ⟨rfl, rfl⟩) | (go_at_call 13; refine hcon.mono ?_; rintro e w' ⟨v, rfl, hv, hb'⟩; rcases hv with ⟨j, hj1, hj3, hj4, rfl⟩ | ⟨hj4, rfl⟩))
  all_goals (go_ret2; refine ⟨_, rfl, ?_, ((Below.refl _ w).alloc (Nat.le_refl _) _).trans (hb'.mono (by simp))⟩)
  · exact .inl ⟨j, hj1, hj3, hj4, rfl⟩
  · exact .inr ⟨hj4, rfl⟩

end Go.Proofs.YtnlkhnbbkjejkaaGreatDoor
end
section
namespace Go.Proofs.YtnlkhnbbkjejkaaGreatDoor
open Go.RowKit Go.Lib Go.Proofs

/-- The moments lie in memory. -/
def Lies (b off : Nat) (zs : List Mom) (w : World) : Prop := b < w.heap.size ∧ ∀ j, j < zs.length → ∀ i v, (encM zs[j]!)[i]? = some v → w.cell? ⟨b, off + j * 4 + i, none⟩ = some v
theorem Lies.later {b off : Nat} {zs : List Mom} {w w' : World} (h : Lies b off zs w) (hb : Below w.heap.size w w') : Lies b off zs w' :=
  ⟨Nat.lt_of_lt_of_le h.1 hb.size, fun j hj i v hi => (hb.cell (p := ⟨b, off + j * 4 + i, none⟩) h.1).trans (h.2 j hj i v hi)⟩

theorem backward' (b off n c : Nat) (zs : List Mom) (fr : Int) (f : Nat) (hfr : fr = f) (st : Int) (w : World) (hz : n ≤ zs.length) (hbig : n ≤ 9223372036854775806) (hf : f ≤ n) (hl : Lies b off zs w) :
    Calls Tryz.prog 6 #[.slice (some ⟨b, off, none⟩) n c, .int .i64 fr, .int .i64 st] w fun e w' => ∃ v, e = .returned v ∧
      ((∃ j, j < f ∧ (zs[j]!.st == st) = true ∧ (∀ i, j < i → i < f → (zs[i]!.st == st) = false) ∧ v = .tuple #[.int .i64 j, .int .i64 0]) ∨ ((∀ i, i < f → (zs[i]!.st == st) = false) ∧ v = .tuple #[.int .i64 0, .int .i64 5])) ∧ Below w.heap.size w w' := by
  subst hfr
  exact backward b off n c zs f st w hz hbig hf hl.1 hl.2

theorem backward_hit (b off n c : Nat) (zs : List Mom) (j : Nat) (st : Int) (w : World) (hz : n ≤ zs.length) (hbig : n ≤ 9223372036854775806) (hj : j < n) (hs : (zs[j]!.st == st) = true) (hl : Lies b off zs w) :
    Calls Tryz.prog 6 #[.slice (some ⟨b, off, none⟩) n c, .int .i64 ((j : Int) + 1), .int .i64 st] w fun e w' => e = .returned (.tuple #[.int .i64 j, .int .i64 0]) ∧ Below w.heap.size w w' := by
  refine (backward' b off n c zs ((j : Int) + 1) (j + 1) (by omega) st w hz hbig (by omega) hl).mono ?_
  rintro e w' ⟨v, rfl, hv, hb⟩
  refine ⟨?_, hb⟩
  rcases hv with ⟨k, hk1, hk2, hk3, rfl⟩ | ⟨hk3, rfl⟩
  · have : k = j := by
      by_cases h : k < j
      · exact absurd (hk3 j h (by omega)) (by rw [hs]; simp)
      · omega
    rw [this]
  · exact absurd (hk3 j (by omega)) (by rw [hs]; simp)

set_option maxHeartbeats 4000000 in
theorem debugBack_in (b off n c : Nat) (zs : List Mom) (f : Nat) (st : Int) (w : World) (hn : n ≤ 300) (hz : n ≤ zs.length) (hf : f ≤ n) (hl : Lies b off zs w)
    (hsan : ∀ W, Below w.heap.size w W → Calls Tryz.prog 4 #[] W fun e w' => e = .returned (.bool true) ∧ Below W.heap.size W w') :
    Calls Tryz.prog 3 #[.slice (some ⟨b, off, none⟩) n c, .int .i64 f, .int .i64 st] w fun e w' => e = .returned (.bool true) ∧ Below w.heap.size w w' := by
  have t1 : ¬ (n : Int) > 300 := by omega
  have t2 : ¬ (f : Int) < 0 := by omega
  have t3 : ¬ (f : Int) > (n : Int) := by omega
  have hbig : n ≤ 9223372036854775806 := by omega
  have hrow : ∀ (W : World), Below w.heap.size w W → ∀ j, j < zs.length → W.cell? ⟨b, off + j * 4, none⟩ = some (.int .i64 zs[j]!.st) := fun W hW j hj =>
    (hW.cell (p := ⟨b, off + j * 4, none⟩) hl.1).trans (hl.2 j hj 0 _ rfl)
  have hfw := forward b off n c zs f st w hz hbig hf hl.1 hl.2
  have hbw : ∀ W, Below w.heap.size w W → _ := fun W hB => backward' b off n c zs f f rfl st W hz hbig hf (hl.later hB)
  have hbh : ∀ W j, Below w.heap.size w W → j < n → (zs[j]!.st == st) = true → _ := fun W j hB hj hs => backward_hit b off n c zs j st W hz hbig hj hs (hl.later hB)
  clear hl
  go_enter Tryz.func3, Tryz.ntmps3
  go_wp2_with (go_at_call 5; refine hfw.mono ?_; clear hfw; rintro e w1 ⟨v, rfl, hv, hb1⟩; rcases hv with ⟨j, hj1, hj2, hj3, hj4, rfl⟩ | ⟨hj4, rfl⟩)
  · have q1 : ¬ (j : Int) < (f : Int) := by omega
    have q2 : ¬ (j : Int) ≥ (n : Int) := by omega
    have hw1 : IntKind.wrap .i64 ((j : Int) + 1) = (j : Int) + 1 := Go.IntWalk.i64_in _ ⟨by omega, by omega⟩
    go_wp2_with (go_at_call 6; refine (hbw _ hb1).mono ?_; clear hbw; rintro e w2 ⟨v, rfl, hv2, hb2⟩; have hb12 := hb1.trans (hb2.mono hb1.size); rcases hv2 with ⟨k, hk1, hk2, hk3, rfl⟩ | ⟨hk3, rfl⟩)
    · have hw2 : IntKind.wrap .i64 ((k : Int) + 1) = (k : Int) + 1 := Go.IntWalk.i64_in _ ⟨by omega, by omega⟩
      have q3 : ¬ (k : Int) < 0 := by omega
      have q4 : ¬ (k : Int) ≥ (f : Int) := by omega
      have hno : ∀ i, k + 1 ≤ i → i < j → (zs[i]!.st == st) = false := fun i h1 h2 => if h : i < f then hk3 i (by omega) h else hj4 i (by omega) h2
      go_wp2_with (go_at_call 6; refine (hbh _ j hb12 hj2 hj3).mono ?_; clear hbh; rintro e w3 ⟨rfl, hb3⟩; have hb123 := hb12.trans (hb3.mono hb12.size))
      go_loopg [15] (j - (k + 1)) (fun gg s15 wr => ∃ kk : Nat, (k + 1) ≤ kk ∧ kk ≤ j ∧ j - kk ≤ gg ∧ s15 = .int .i64 kk ∧ Aside (Below w.heap.size w wr))
      case atStart => exact ⟨(k + 1), Nat.le_refl _, by omega, by omega, by go_num, hb123⟩
      case round =>
        obtain ⟨kk, hlo, hkk, hg, rfl, BW⟩ := hrel
        have hge : (kk : Int) ≥ 0 := by omega
        by_cases hlt : kk < j
        · have hltz : (kk : Int) < (j : Int) := by omega
          have hltn : (kk : Int) < (n : Int) := by omega
          have l0 := hrow wr BW.out kk (by omega)
          have hne : ¬ zs[kk]!.st = st := by have := hno kk (by omega) hlt; simpa using this
          have hneB : (zs[kk]!.st == st) = false := by simpa using hne
          generalize zs[kk]!.st = s0 at l0 hne hneB
          go_wp2
          go_roundg (j - (kk + 1))
          case measure => omega
          case rel => exact ⟨kk + 1, by omega, by omega, by omega, by go_num, BW.out⟩
        · have hltz : ¬ (kk : Int) < (j : Int) := by omega
          go_wp2_with (go_at_call 4; refine (hsan _ BW.out).mono ?_; rintro e w9 ⟨rfl, hb9⟩)
          go_ret
          exact ⟨rfl, BW.out.trans (hb9.mono BW.out.size)⟩
    · have hno : ∀ i, 0 ≤ i → i < j → (zs[i]!.st == st) = false := fun i h1 h2 => if h : i < f then hk3 i h else hj4 i (by omega) h2
      go_wp2_with (go_at_call 6; refine (hbh _ j hb12 hj2 hj3).mono ?_; clear hbh; rintro e w3 ⟨rfl, hb3⟩; have hb123 := hb12.trans (hb3.mono hb12.size))
      go_loopg [15] (j - 0) (fun gg s15 wr => ∃ kk : Nat, 0 ≤ kk ∧ kk ≤ j ∧ j - kk ≤ gg ∧ s15 = .int .i64 kk ∧ Aside (Below w.heap.size w wr))
      case atStart => exact ⟨0, Nat.le_refl _, by omega, by omega, by go_num, hb123⟩
      case round =>
        obtain ⟨kk, hlo, hkk, hg, rfl, BW⟩ := hrel
        have hge : (kk : Int) ≥ 0 := by omega
        by_cases hlt : kk < j
        · have hltz : (kk : Int) < (j : Int) := by omega
          have hltn : (kk : Int) < (n : Int) := by omega
          have l0 := hrow wr BW.out kk (by omega)
          have hne : ¬ zs[kk]!.st = st := by have := hno kk (by omega) hlt; simpa using this
          have hneB : (zs[kk]!.st == st) = false := by simpa using hne
          generalize zs[kk]!.st = s0 at l0 hne hneB
          go_wp2
          go_roundg (j - (kk + 1))
          case measure => omega
          case rel => exact ⟨kk + 1, by omega, by omega, by omega, by go_num, BW.out⟩
        · have hltz : ¬ (kk : Int) < (j : Int) := by omega
          go_wp2_with (go_at_call 4; refine (hsan _ BW.out).mono ?_; rintro e w9 ⟨rfl, hb9⟩)
          go_ret
          exact ⟨rfl, BW.out.trans (hb9.mono BW.out.size)⟩
  · go_wp2_with (go_at_call 6; refine (hbw _ hb1).mono ?_; clear hbw; rintro e w2 ⟨v, rfl, hv2, hb2⟩; have hb12 := hb1.trans (hb2.mono hb1.size); rcases hv2 with ⟨k, hk1, hk2, hk3, rfl⟩ | ⟨hk3, rfl⟩)
    · have hw2 : IntKind.wrap .i64 ((k : Int) + 1) = (k : Int) + 1 := Go.IntWalk.i64_in _ ⟨by omega, by omega⟩
      have q3 : ¬ (k : Int) < 0 := by omega
      have q4 : ¬ (k : Int) ≥ (f : Int) := by omega
      have hno : ∀ i, k + 1 ≤ i → i < n → (zs[i]!.st == st) = false := fun i h1 h2 => if h : i < f then hk3 i (by omega) h else hj4 i (by omega) h2
      go_wp2
      go_loopg [15] (n - (k + 1)) (fun gg s15 wr => ∃ kk : Nat, (k + 1) ≤ kk ∧ kk ≤ n ∧ n - kk ≤ gg ∧ s15 = .int .i64 kk ∧ Aside (Below w.heap.size w wr))
      case atStart => exact ⟨(k + 1), Nat.le_refl _, by omega, by omega, by go_num, hb12⟩
      case round =>
        obtain ⟨kk, hlo, hkk, hg, rfl, BW⟩ := hrel
        have hge : (kk : Int) ≥ 0 := by omega
        by_cases hlt : kk < n
        · have hltz : (kk : Int) < (n : Int) := by omega
          have hltn : (kk : Int) < (n : Int) := by omega
          have l0 := hrow wr BW.out kk (by omega)
          have hne : ¬ zs[kk]!.st = st := by have := hno kk (by omega) hlt; simpa using this
          have hneB : (zs[kk]!.st == st) = false := by simpa using hne
          generalize zs[kk]!.st = s0 at l0 hne hneB
          go_wp2
          go_roundg (n - (kk + 1))
          case measure => omega
          case rel => exact ⟨kk + 1, by omega, by omega, by omega, by go_num, BW.out⟩
        · have hltz : ¬ (kk : Int) < (n : Int) := by omega
          go_wp2_with (go_at_call 4; refine (hsan _ BW.out).mono ?_; rintro e w9 ⟨rfl, hb9⟩)
          go_ret
          exact ⟨rfl, BW.out.trans (hb9.mono BW.out.size)⟩
    · have hno : ∀ i, 0 ≤ i → i < n → (zs[i]!.st == st) = false := fun i h1 h2 => if h : i < f then hk3 i h else hj4 i (by omega) h2
      go_wp2
      go_loopg [15] (n - 0) (fun gg s15 wr => ∃ kk : Nat, 0 ≤ kk ∧ kk ≤ n ∧ n - kk ≤ gg ∧ s15 = .int .i64 kk ∧ Aside (Below w.heap.size w wr))
      case atStart => exact ⟨0, Nat.le_refl _, by omega, by omega, by go_num, hb12⟩
      case round =>
        obtain ⟨kk, hlo, hkk, hg, rfl, BW⟩ := hrel
        have hge : (kk : Int) ≥ 0 := by omega
        by_cases hlt : kk < n
        · have hltz : (kk : Int) < (n : Int) := by omega
          have hltn : (kk : Int) < (n : Int) := by omega
          have l0 := hrow wr BW.out kk (by omega)
          have hne : ¬ zs[kk]!.st = st := by have := hno kk (by omega) hlt; simpa using this
          have hneB : (zs[kk]!.st == st) = false := by simpa using hne
          generalize zs[kk]!.st = s0 at l0 hne hneB
          go_wp2
          go_roundg (n - (kk + 1))
          case measure => omega
          case rel => exact ⟨kk + 1, by omega, by omega, by omega, by go_num, BW.out⟩
        · have hltz : ¬ (kk : Int) < (n : Int) := by omega
          go_wp2_with (go_at_call 4; refine (hsan _ BW.out).mono ?_; rintro e w9 ⟨rfl, hb9⟩)
          go_ret
          exact ⟨rfl, BW.out.trans (hb9.mono BW.out.size)⟩

end Go.Proofs.YtnlkhnbbkjejkaaGreatDoor
end
section
namespace Go.Proofs.YtnlkhnbbkjejkaaGreatDoor
open Go.RowKit Go.Lib Go.Proofs

set_option maxHeartbeats 1000000 in
theorem debugBack_out (p : Option Addr) (n c : Nat) (f st : Int) (w : World) (h : n > 300 ∨ f < 0 ∨ f > (n : Int))
    (hsan : Calls Tryz.prog 4 #[] w fun e w' => e = .returned (.bool true) ∧ Below w.heap.size w w') :
    Calls Tryz.prog 3 #[.slice p n c, .int .i64 f, .int .i64 st] w fun e w' => e = .returned (.bool true) ∧ Below w.heap.size w w' := by
  by_cases t1 : (n : Int) > 300
  · go_enter Tryz.func3, Tryz.ntmps3
    go_wp2_with (go_at_call 4; refine hsan.mono ?_; rintro e w9 ⟨rfl, hb9⟩)
    all_goals (go_ret; exact ⟨rfl, hb9⟩)
  · by_cases t2 : f < 0
    · go_enter Tryz.func3, Tryz.ntmps3
      go_wp2_with (go_at_call 4; refine hsan.mono ?_; rintro e w9 ⟨rfl, hb9⟩)
      all_goals (go_ret; exact ⟨rfl, hb9⟩)
    · have t3 : f > (n : Int) := by omega
      go_enter Tryz.func3, Tryz.ntmps3
      go_wp2_with (go_at_call 4; refine hsan.mono ?_; rintro e w9 ⟨rfl, hb9⟩)
      all_goals (go_ret; exact ⟨rfl, hb9⟩)

theorem first_nil (p : Option Addr) (lb : Array Value) (c : Nat) (f d : Int) (w : World) :
    Calls Tryz.prog 13 #[.slice p 0 c, .int .i64 f, .int .i64 d, .func (.func 29) #[] lb] w fun e w' => e = .returned (.tuple #[.int .i64 0, .int .i64 5]) ∧ Below w.heap.size w w' := by
  go_enter Tryz.func13, Tryz.ntmps13
  go_wp2
  go_loopg [10] 1 (fun gg s10 wr => s10 = .int .i64 f ∧ wr = w)
  case atStart => exact ⟨rfl, rfl⟩
  case round =>
    obtain ⟨rfl, rfl⟩ := hrel
    by_cases h1 : f ≥ 0
    · have h2 : ¬ f < 0 := by omega
      go_wp2
      go_ret2
      exact ⟨rfl, Below.refl _ _⟩
    · go_wp2
      go_ret2
      exact ⟨rfl, Below.refl _ _⟩

theorem forward_nil (p : Option Addr) (c : Nat) (st : Int) (w : World) :
    Calls Tryz.prog 5 #[.slice p 0 c, .int .i64 0, .int .i64 st] w fun e w' => e = .returned (.tuple #[.int .i64 0, .int .i64 5]) ∧ Below w.heap.size w w' := by
  have hcon := first_nil p #[.pointer (some ⟨w.heap.size, 0, none⟩)] c 0 1 (w.alloc (.cells #[.int .i64 st] 3))
  go_enter Tryz.func5, Tryz.ntmps5
  go_wp2_with (first | (go_at_call 14; refine (begins_any st w).mono ?_; rintro e w' ⟨rfl, rfl⟩) | (go_at_call 13; refine hcon.mono ?_; rintro e w' ⟨rfl, hb'⟩))
  all_goals (go_ret2; exact ⟨rfl, ((Below.refl _ w).alloc (Nat.le_refl _) _).trans (hb'.mono (by simp))⟩)

theorem backward_nil (p : Option Addr) (c : Nat) (st : Int) (w : World) :
    Calls Tryz.prog 6 #[.slice p 0 c, .int .i64 0, .int .i64 st] w fun e w' => e = .returned (.tuple #[.int .i64 0, .int .i64 5]) ∧ Below w.heap.size w w' := by
  have hcon := first_nil p #[.pointer (some ⟨w.heap.size, 0, none⟩)] c (-1) (-1) (w.alloc (.cells #[.int .i64 st] 3))
  go_enter Tryz.func6, Tryz.ntmps6
  go_wp2_with (first | (go_at_call 14; refine (begins_any st w).mono ?_; rintro e w' ⟨rfl, rfl⟩) | (go_at_call 13; refine hcon.mono ?_; rintro e w' ⟨rfl, hb'⟩))
  all_goals (go_ret2; exact ⟨rfl, ((Below.refl _ w).alloc (Nat.le_refl _) _).trans (hb'.mono (by simp))⟩)

theorem debugBack_nil (p : Option Addr) (c : Nat) (st : Int) (w : World)
    (hsan : ∀ W, Below w.heap.size w W → Calls Tryz.prog 4 #[] W fun e w' => e = .returned (.bool true) ∧ Below W.heap.size W w') :
    Calls Tryz.prog 3 #[.slice p 0 c, .int .i64 0, .int .i64 st] w fun e w' => e = .returned (.bool true) ∧ Below w.heap.size w w' := by
  go_enter Tryz.func3, Tryz.ntmps3
  go_wp2_with (first | (go_at_call 5; refine (forward_nil p c st w).mono ?_; rintro e w1 ⟨rfl, hb1⟩) | (go_at_call 6; refine (backward_nil p c st w1).mono ?_; rintro e w2 ⟨rfl, hb2⟩))
  have hb12 := hb1.trans (hb2.mono hb1.size)
  go_loopg [15] 1 (fun gg s15 wr => s15 = .int .i64 0 ∧ wr = w2)
  case atStart => exact ⟨rfl, rfl⟩
  case round =>
    obtain ⟨rfl, rfl⟩ := hrel
    go_wp2_with (go_at_call 4; refine (hsan _ hb12).mono ?_; rintro e w9 ⟨rfl, hb9⟩)
    go_ret
    exact ⟨rfl, hb12.trans (hb9.mono hb12.size)⟩

end Go.Proofs.YtnlkhnbbkjejkaaGreatDoor
end
