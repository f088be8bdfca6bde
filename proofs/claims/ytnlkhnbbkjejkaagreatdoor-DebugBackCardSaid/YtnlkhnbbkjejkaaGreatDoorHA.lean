/- DebugBack returns true for every list, index and number, and changes nothing that lay before. No conditions. Part HA. -/
import Derived.Test.YtnlkhnbbkjejkaaGreatDoorSX
import Derived.Test.YtnlkhnbbkjejkaaGreatDoorSA
import Derived.Test.YtnlkhnbbkjejkaaGreatDoorSW
import Derived.Test.YtnlkhnbbkjejkaaGreatDoorSB
import Derived.Test.YtnlkhnbbkjejkaaGreatDoorVE
set_option linter.unusedSimpArgs false
set_option linter.unusedVariables false
section
namespace Go.Vm
open Go.Proofs
set_option maxRecDepth 100000

noncomputable section
/-! ### operations of a region, one by one -/
def partOps (E : Env) : Nat → St → Option St
  | 0, s => some s
  | n + 1, s => match s.fr.todo with
    | .reg ops (o :: rest) :: k => match o.guard with
      | none => match opA E s.h s.next s.fr.tmps o with
        | some (.val v h next) => match setDst s.fr.n s.fr.tmps o.dst v with
          | some t => partOps E n { s with fr := { s.fr with tmps := t, todo := .reg ops rest :: k }, h, next }
          | none => none
        | _ => none
      | some _ => none
    | _ => none
section
variable {E : Env} {W0 : World} {CS : List Frame}
theorem partOps_ok (hE : EnvOK E) (hH : HookOK E W0) : ∀ (n : Nat) (s s' : St) (m : Machine), Stands E W0 CS s m → s.fr.mode = .run → partOps E n s = some s' → ∃ m', Steps E.P m m' ∧ Stands E W0 CS s' m'
  | 0, s, s', m, hst, hm, h => by cases h; exact ⟨m, Steps.refl _ _, hst⟩
  | n + 1, s, s', m, hst, hm, h => by
    unfold partOps at h
    split at h
    · rename_i ops o rest k ht
      split at h
      · rename_i hg
        split at h
        · rename_i v h1 n1 hop
          split at h
          · rename_i t hset
            obtain ⟨v', h', next', ⟨rfl, rfl, rfl⟩, hres⟩ := one_op hH hst hm ht hg (fun c e => by obtain ⟨d, hd⟩ := opA_defer hop c e; cases hd) (fun v' h' n' => v' = v ∧ h' = h1 ∧ n' = n1)
              (fun σ w ρ H hev => ⟨v, h1, n1, ⟨rfl, rfl, rfl⟩, opA_sound hE H (fun x _ => hev x) hop⟩)
            obtain ⟨m1, g1, g2⟩ := hres t hset
            obtain ⟨m', g3, g4⟩ := partOps_ok hE hH n _ s' m1 g2 hm h
            exact ⟨m', Steps.trans g1 g3, g4⟩
          · cases h
        · cases h
      · cases h
    · cases h
theorem plainK (hE : EnvOK E) (hH : HookOK E W0) (hmix : E.P.follows .mixedOrders = true) {k : Nat} {s : St} {keys : List Pos} {fr' : AFrame} {cs' : List AFrame} {next' : Pos} {objs : List (Option Obj)}
    (hv : viewK keys (runA E k s) = some (fr', cs', next', objs)) {m : Machine} (hs : Stands E W0 CS s m) : ∃ m', Steps E.P m m' ∧ Stands E W0 CS ⟨fr', cs', layH keys objs, next'⟩ m' := by
  unfold viewK at hv
  split at hv
  · rename_i s' hr
    cases hv
    obtain ⟨m', h1, h2⟩ := run_sound hE hH (draw_ok hE hH hmix CS) k s s' m hs hr
    exact ⟨m', h1, stands_less h2 _ (fun g o => layH_get s'.h keys g o)⟩
  · cases hv
theorem stands_tmps {s : St} {m : Machine} {ops rest : List Oper} {k : List AItem} (ht : s.fr.todo = .reg ops rest :: k) (hs : Stands E W0 CS s m) {t' : T AV} (h : ∀ j, tget t' j = tget s.fr.tmps j) :
    Stands E W0 CS { s with fr := { s.fr with tmps := t' } } m := by
  obtain ⟨σ, f, cs, w, hmm, A⟩ := hs
  obtain ⟨p1, p2⟩ := A.fr.top.plain (fun a k' e => by rw [ht] at e; cases e; rfl)
  refine ⟨σ, f, cs, w, hmm, ⟨A.wr, A.gl, ⟨A.fr.fn, A.fr.size, ?_, A.fr.defers, A.fr.mode, A.fr.kind, A.fr.round⟩, A.cs, A.nd⟩⟩
  have hT : TR σ t' f.tmps (fun _ => True) := fun j hj => by rw [h j]; exact p2 j hj
  rw [ht] at p1
  unfold TopR
  simp only [ht]
  exact ⟨p1, hT⟩
end
def onOf (r : Option Out) : St := match r with
  | some (.on s) => s
  | _ => default
def partOf (r : Option St) : St := match r with
  | some s => s
  | none => default
def topOps (s : St) : List Oper := match s.fr.todo with
  | .reg ops _ :: _ => ops
  | _ => []
def topO (s : St) : Oper := match s.fr.todo with
  | .reg _ (o :: _) :: _ => o
  | _ => default
def topRest (s : St) : List Oper := match s.fr.todo with
  | .reg _ (_ :: l) :: _ => l
  | _ => []
def topK (s : St) : List AItem := match s.fr.todo with
  | _ :: k => k
  | _ => []

/-! ### the loop of gen.Marks -/
def giP : Pos := (d15 (d1 (d13 e1)))
def mgP : Pos := (d9 (d1 (d11 e1)))
def ogP : Pos := (d14 (d1 (d13 e1)))
def keyM : Nat → Nat
  | 0 => 0 | 1 => 5 | 2 => 8 | 3 => 9 | _ => 3
def valM : Nat → Nat
  | 0 => 1 | 1 => 4 | 2 => 8 | 3 => 12 | _ => 45
def entM : List (AV × AV) := [(i 0, i 1), (i 5, i 4), (i 8, i 8), (i 9, i 12), (i 3, i 45)]
def upd (f : Nat → AV) (a : Nat) (v : AV) : Nat → AV := fun j => match Nat.beq j a with
  | true => v
  | false => f j
def f0 : Nat → AV := fun _ => iN .i64 0
def Ltm (y : Nat → AV) : T AV :=
  ((((((((((lB.put 8 (y 8)).put 9 (y 9)).put 27 (y 27)).put 28 (y 28)).put 29 (y 29)).put 30 (y 30)).put 31 (y 31)).put 32 (y 32)).put 33 (y 33)).put 34 (y 34)).put 35 (y 35)
def yAft (y : Nat → AV) (k v : Nat) : Nat → AV
  | 8 => i k | 9 => i v | 27 => .tuple [.bool true, i k, i v] | 28 => .bool true | 29 => .tuple [i k, i v] | 30 => i k | 31 => i v | 32 => tget lB 7 | 33 => i k | 34 => i v | 35 => .ptr ogP 0 k | j => y j
def Lst (f y : Nat → AV) (seen : List Nat) : St := ⟨⟨42, 37, Ltm y, lT, [], .run, false, none⟩, lC, layH lK (lO f seen), lN⟩
/-- behind 'next' -/
def Nst (f y : Nat → AV) (seen seen' : List Nat) (v : AV) : St :=
  ⟨⟨42, 37, (Ltm y).put 27 v, .reg (topOps (Lst f y seen)) (topRest (Lst f y seen)) :: topK (Lst f y seen), [], .run, false, none⟩, lC, (layH lK (lO f seen)).set (.iter mgP seen' 5) giP, lN⟩
def Zst (f y : Nat → AV) (seen : List Nat) : St :=
  ⟨⟨42, 37, (Ltm y).put 27 (.tuple [.bool false]), .reg (topOps (Lst f y seen)) (topRest (Lst f y seen)) :: topK (Lst f y seen), [], .run, false, none⟩, lC, layH lK (lO f seen), lN⟩
def Est (f y : Nat → AV) (seen : List Nat) (n : Nat) : St := onOf (runA E1 7 (Nst f y seen (seen ++ [n]) (.tuple [.bool true, i (keyM n), i (valM n)])))
def Fst (f y : Nat → AV) (seen : List Nat) (n : Nat) : St :=
  { Est f y seen n with fr := { (Est f y seen n).fr with tmps := (Est f y seen n).fr.tmps.put 29 (.tuple [i (keyM n), i (valM n)]), todo := .reg (topOps (Est f y seen n)) (topRest (Est f y seen n)) :: topK (Est f y seen n) } }
def A0 : St := ⟨aEnd66740F, aEnd66740C, layH aEnd66740K aEnd66740O, aEnd66740N⟩
def A1 : St := onOf (runA E1 3 A0)
def A2 : St := partOf (partOps E1 4 A1)
def A3 : St := { A2 with fr := { A2.fr with tmps := A2.fr.tmps.put 26 (.ptr A2.next 0 0), todo := .reg (topOps A2) (topRest A2) :: topK A2 }, h := A2.h.set (.iter mgP [] (len entM)) A2.next, next := A2.next.succ }

theorem A1_run : runA E1 3 A0 = some (.on A1) := by kernel_rfl
theorem A2_run : partOps E1 4 A1 = some A2 := by kernel_rfl
theorem A1_mode : A1.fr.mode = .run := by kernel_rfl
theorem A2_mode : A2.fr.mode = .run := by kernel_rfl
theorem A2_top : A2.fr.todo = .reg (topOps A2) (topO A2 :: topRest A2) :: topK A2 := by kernel_rfl
theorem A2_guard : (topO A2).guard = none := by kernel_rfl
theorem A2_op : (topO A2).op = .range 164 (.tmp 25) := by kernel_rfl
theorem A2_ty : E1.P.underlying 164 = some (.map 3 3) := by kernel_rfl
theorem A2_x : evalA E1.base A2.fr.tmps (.tmp 25) = some (.map mgP) := by kernel_rfl
theorem A2_es : A2.h.get mgP = some (.map entM) := by kernel_rfl
theorem A2_ne : mgP.beq A2.next = false := by kernel_rfl
theorem A2_set : setDst A2.fr.n A2.fr.tmps (topO A2).dst (.ptr A2.next 0 0) = some (A2.fr.tmps.put 26 (.ptr A2.next 0 0)) := by kernel_rfl
theorem A3_run : viewK lK (runA E1 5 A3) = some (⟨42, 37, lB, lT, [], .run, false, none⟩, lC, lN, lO f0 []) := by kernel_rfl
theorem L_top (f y : Nat → AV) (seen : List Nat) : (Lst f y seen).fr.todo = .reg (topOps (Lst f y seen)) (topO (Lst f y seen) :: topRest (Lst f y seen)) :: topK (Lst f y seen) := by kernel_rfl
theorem L_guard (f y : Nat → AV) (seen : List Nat) : (topO (Lst f y seen)).guard = none := by kernel_rfl
theorem L_op (f y : Nat → AV) (seen : List Nat) : (topO (Lst f y seen)).op = .next (.tmp 26) false := by kernel_rfl
theorem L_dst (f y : Nat → AV) (seen : List Nat) : (topO (Lst f y seen)).dst = some 27 := by kernel_rfl
theorem L_x (f y : Nat → AV) (seen : List Nat) : evalA E1.base (Lst f y seen).fr.tmps (.tmp 26) = some (.ptr giP 0 0) := by kernel_rfl
theorem L_gi (f y : Nat → AV) (seen : List Nat) : (Lst f y seen).h.get giP = some (.iter mgP seen 5) := by kernel_rfl
theorem L_es (f y : Nat → AV) (seen : List Nat) : (Lst f y seen).h.get mgP = some (.map entM) := by kernel_rfl
theorem L_old : isOld E1.base giP = false := by kernel_rfl
theorem L_ne : giP.beq mgP = false := by kernel_rfl
end
end Go.Vm
end
section
namespace Go.Vm
open Go.Proofs
set_option maxRecDepth 100000

noncomputable section
theorem N_run0 (f y : Nat → AV) (seen : List Nat) : runA E1 7 (Nst f y seen (seen ++ [0]) (.tuple [.bool true, i (keyM 0), i (valM 0)])) = some (.on (Est f y seen 0)) := by kernel_rfl
theorem E_top0 (f y : Nat → AV) (seen : List Nat) : (Est f y seen 0).fr.todo = .reg (topOps (Est f y seen 0)) (topO (Est f y seen 0) :: topRest (Est f y seen 0)) :: topK (Est f y seen 0) := by kernel_rfl
theorem E_all0 (f y : Nat → AV) (seen : List Nat) : (Est f y seen 0).fr.mode = .run ∧ (topO (Est f y seen 0)).guard = none ∧ (topO (Est f y seen 0)).op = .entry (.tmp 26) ∧ evalA E1.base (Est f y seen 0).fr.tmps (.tmp 26) = some (.ptr giP 0 0) ∧
    (Est f y seen 0).h.get giP = some (.iter mgP (seen ++ [0]) 5) ∧ (Est f y seen 0).h.get mgP = some (.map entM) ∧
    setDst (Est f y seen 0).fr.n (Est f y seen 0).fr.tmps (topO (Est f y seen 0)).dst (.tuple [i (keyM 0), i (valM 0)]) = some ((Est f y seen 0).fr.tmps.put 29 (.tuple [i (keyM 0), i (valM 0)])) :=
  ⟨by kernel_rfl, by kernel_rfl, by kernel_rfl, by kernel_rfl, by kernel_rfl, by kernel_rfl, by kernel_rfl⟩
theorem F_run0 (f y : Nat → AV) (seen : List Nat) :
    viewK lK (runA E1 7 (Fst f y seen 0)) = some (⟨42, 37, Ltm (yAft y (keyM 0) (valM 0)), lT, [], .run, false, none⟩, lC, lN, lO (upd f (keyM 0) (i (valM 0))) (seen ++ [0])) := by kernel_rfl
theorem N_run1 (f y : Nat → AV) (seen : List Nat) : runA E1 7 (Nst f y seen (seen ++ [1]) (.tuple [.bool true, i (keyM 1), i (valM 1)])) = some (.on (Est f y seen 1)) := by kernel_rfl
theorem E_top1 (f y : Nat → AV) (seen : List Nat) : (Est f y seen 1).fr.todo = .reg (topOps (Est f y seen 1)) (topO (Est f y seen 1) :: topRest (Est f y seen 1)) :: topK (Est f y seen 1) := by kernel_rfl
theorem E_all1 (f y : Nat → AV) (seen : List Nat) : (Est f y seen 1).fr.mode = .run ∧ (topO (Est f y seen 1)).guard = none ∧ (topO (Est f y seen 1)).op = .entry (.tmp 26) ∧ evalA E1.base (Est f y seen 1).fr.tmps (.tmp 26) = some (.ptr giP 0 0) ∧
    (Est f y seen 1).h.get giP = some (.iter mgP (seen ++ [1]) 5) ∧ (Est f y seen 1).h.get mgP = some (.map entM) ∧
    setDst (Est f y seen 1).fr.n (Est f y seen 1).fr.tmps (topO (Est f y seen 1)).dst (.tuple [i (keyM 1), i (valM 1)]) = some ((Est f y seen 1).fr.tmps.put 29 (.tuple [i (keyM 1), i (valM 1)])) :=
  ⟨by kernel_rfl, by kernel_rfl, by kernel_rfl, by kernel_rfl, by kernel_rfl, by kernel_rfl, by kernel_rfl⟩
theorem F_run1 (f y : Nat → AV) (seen : List Nat) :
    viewK lK (runA E1 7 (Fst f y seen 1)) = some (⟨42, 37, Ltm (yAft y (keyM 1) (valM 1)), lT, [], .run, false, none⟩, lC, lN, lO (upd f (keyM 1) (i (valM 1))) (seen ++ [1])) := by kernel_rfl
theorem N_run2 (f y : Nat → AV) (seen : List Nat) : runA E1 7 (Nst f y seen (seen ++ [2]) (.tuple [.bool true, i (keyM 2), i (valM 2)])) = some (.on (Est f y seen 2)) := by kernel_rfl
theorem E_top2 (f y : Nat → AV) (seen : List Nat) : (Est f y seen 2).fr.todo = .reg (topOps (Est f y seen 2)) (topO (Est f y seen 2) :: topRest (Est f y seen 2)) :: topK (Est f y seen 2) := by kernel_rfl
theorem E_all2 (f y : Nat → AV) (seen : List Nat) : (Est f y seen 2).fr.mode = .run ∧ (topO (Est f y seen 2)).guard = none ∧ (topO (Est f y seen 2)).op = .entry (.tmp 26) ∧ evalA E1.base (Est f y seen 2).fr.tmps (.tmp 26) = some (.ptr giP 0 0) ∧
    (Est f y seen 2).h.get giP = some (.iter mgP (seen ++ [2]) 5) ∧ (Est f y seen 2).h.get mgP = some (.map entM) ∧
    setDst (Est f y seen 2).fr.n (Est f y seen 2).fr.tmps (topO (Est f y seen 2)).dst (.tuple [i (keyM 2), i (valM 2)]) = some ((Est f y seen 2).fr.tmps.put 29 (.tuple [i (keyM 2), i (valM 2)])) :=
  ⟨by kernel_rfl, by kernel_rfl, by kernel_rfl, by kernel_rfl, by kernel_rfl, by kernel_rfl, by kernel_rfl⟩
theorem F_run2 (f y : Nat → AV) (seen : List Nat) :
    viewK lK (runA E1 7 (Fst f y seen 2)) = some (⟨42, 37, Ltm (yAft y (keyM 2) (valM 2)), lT, [], .run, false, none⟩, lC, lN, lO (upd f (keyM 2) (i (valM 2))) (seen ++ [2])) := by kernel_rfl
theorem N_run3 (f y : Nat → AV) (seen : List Nat) : runA E1 7 (Nst f y seen (seen ++ [3]) (.tuple [.bool true, i (keyM 3), i (valM 3)])) = some (.on (Est f y seen 3)) := by kernel_rfl
theorem E_top3 (f y : Nat → AV) (seen : List Nat) : (Est f y seen 3).fr.todo = .reg (topOps (Est f y seen 3)) (topO (Est f y seen 3) :: topRest (Est f y seen 3)) :: topK (Est f y seen 3) := by kernel_rfl
theorem E_all3 (f y : Nat → AV) (seen : List Nat) : (Est f y seen 3).fr.mode = .run ∧ (topO (Est f y seen 3)).guard = none ∧ (topO (Est f y seen 3)).op = .entry (.tmp 26) ∧ evalA E1.base (Est f y seen 3).fr.tmps (.tmp 26) = some (.ptr giP 0 0) ∧
    (Est f y seen 3).h.get giP = some (.iter mgP (seen ++ [3]) 5) ∧ (Est f y seen 3).h.get mgP = some (.map entM) ∧
    setDst (Est f y seen 3).fr.n (Est f y seen 3).fr.tmps (topO (Est f y seen 3)).dst (.tuple [i (keyM 3), i (valM 3)]) = some ((Est f y seen 3).fr.tmps.put 29 (.tuple [i (keyM 3), i (valM 3)])) :=
  ⟨by kernel_rfl, by kernel_rfl, by kernel_rfl, by kernel_rfl, by kernel_rfl, by kernel_rfl, by kernel_rfl⟩
theorem F_run3 (f y : Nat → AV) (seen : List Nat) :
    viewK lK (runA E1 7 (Fst f y seen 3)) = some (⟨42, 37, Ltm (yAft y (keyM 3) (valM 3)), lT, [], .run, false, none⟩, lC, lN, lO (upd f (keyM 3) (i (valM 3))) (seen ++ [3])) := by kernel_rfl
theorem N_run4 (f y : Nat → AV) (seen : List Nat) : runA E1 7 (Nst f y seen (seen ++ [4]) (.tuple [.bool true, i (keyM 4), i (valM 4)])) = some (.on (Est f y seen 4)) := by kernel_rfl
theorem E_top4 (f y : Nat → AV) (seen : List Nat) : (Est f y seen 4).fr.todo = .reg (topOps (Est f y seen 4)) (topO (Est f y seen 4) :: topRest (Est f y seen 4)) :: topK (Est f y seen 4) := by kernel_rfl
theorem E_all4 (f y : Nat → AV) (seen : List Nat) : (Est f y seen 4).fr.mode = .run ∧ (topO (Est f y seen 4)).guard = none ∧ (topO (Est f y seen 4)).op = .entry (.tmp 26) ∧ evalA E1.base (Est f y seen 4).fr.tmps (.tmp 26) = some (.ptr giP 0 0) ∧
    (Est f y seen 4).h.get giP = some (.iter mgP (seen ++ [4]) 5) ∧ (Est f y seen 4).h.get mgP = some (.map entM) ∧
    setDst (Est f y seen 4).fr.n (Est f y seen 4).fr.tmps (topO (Est f y seen 4)).dst (.tuple [i (keyM 4), i (valM 4)]) = some ((Est f y seen 4).fr.tmps.put 29 (.tuple [i (keyM 4), i (valM 4)])) :=
  ⟨by kernel_rfl, by kernel_rfl, by kernel_rfl, by kernel_rfl, by kernel_rfl, by kernel_rfl, by kernel_rfl⟩
theorem F_run4 (f y : Nat → AV) (seen : List Nat) :
    viewK lK (runA E1 7 (Fst f y seen 4)) = some (⟨42, 37, Ltm (yAft y (keyM 4) (valM 4)), lT, [], .run, false, none⟩, lC, lN, lO (upd f (keyM 4) (i (valM 4))) (seen ++ [4])) := by kernel_rfl
theorem N_run (f y : Nat → AV) (seen : List Nat) : ∀ n, n < 5 → runA E1 7 (Nst f y seen (seen ++ [n]) (.tuple [.bool true, i (keyM n), i (valM n)])) = some (.on (Est f y seen n))
  | 0, _ => N_run0 f y seen
  | 1, _ => N_run1 f y seen
  | 2, _ => N_run2 f y seen
  | 3, _ => N_run3 f y seen
  | 4, _ => N_run4 f y seen
  | n + 5, h => absurd h (by omega)
theorem E_top (f y : Nat → AV) (seen : List Nat) : ∀ n, n < 5 → (Est f y seen n).fr.todo = .reg (topOps (Est f y seen n)) (topO (Est f y seen n) :: topRest (Est f y seen n)) :: topK (Est f y seen n)
  | 0, _ => E_top0 f y seen
  | 1, _ => E_top1 f y seen
  | 2, _ => E_top2 f y seen
  | 3, _ => E_top3 f y seen
  | 4, _ => E_top4 f y seen
  | n + 5, h => absurd h (by omega)
theorem E_all (f y : Nat → AV) (seen : List Nat) : ∀ n, n < 5 → (Est f y seen n).fr.mode = .run ∧ (topO (Est f y seen n)).guard = none ∧ (topO (Est f y seen n)).op = .entry (.tmp 26) ∧ evalA E1.base (Est f y seen n).fr.tmps (.tmp 26) = some (.ptr giP 0 0) ∧
    (Est f y seen n).h.get giP = some (.iter mgP (seen ++ [n]) 5) ∧ (Est f y seen n).h.get mgP = some (.map entM) ∧
    setDst (Est f y seen n).fr.n (Est f y seen n).fr.tmps (topO (Est f y seen n)).dst (.tuple [i (keyM n), i (valM n)]) = some ((Est f y seen n).fr.tmps.put 29 (.tuple [i (keyM n), i (valM n)]))
  | 0, _ => E_all0 f y seen
  | 1, _ => E_all1 f y seen
  | 2, _ => E_all2 f y seen
  | 3, _ => E_all3 f y seen
  | 4, _ => E_all4 f y seen
  | n + 5, h => absurd h (by omega)
theorem F_run (f y : Nat → AV) (seen : List Nat) : ∀ n, n < 5 → viewK lK (runA E1 7 (Fst f y seen n)) = some (⟨42, 37, Ltm (yAft y (keyM n) (valM n)), lT, [], .run, false, none⟩, lC, lN, lO (upd f (keyM n) (i (valM n))) (seen ++ [n]))
  | 0, _ => F_run0 f y seen
  | 1, _ => F_run1 f y seen
  | 2, _ => F_run2 f y seen
  | 3, _ => F_run3 f y seen
  | 4, _ => F_run4 f y seen
  | n + 5, h => absurd h (by omega)
theorem lT_top : lT = .reg (topOps (Lst f0 (tget lB) [])) (topO (Lst f0 (tget lB) []) :: topRest (Lst f0 (tget lB) [])) :: topK (Lst f0 (tget lB) []) := by kernel_rfl
def fEnd : Nat → AV
  | 0 => i 1 | 5 => i 4 | 8 => i 8 | 9 => i 12 | 3 => i 45 | _ => iN .i64 0
theorem Z_run (y : Nat → AV) (seen : List Nat) : viewK bStart0K (runA E1 9 (Zst fEnd y seen)) = some (bStart0F, bStart0C, bStart0N, bStart0O) := by kernel_rfl

/-! ### what the list holds -/
def fOf (seen : List Nat) : Nat → AV := seen.foldl (fun f n => upd f (keyM n) (i (valM n))) f0
theorem fOf_app (seen : List Nat) (n : Nat) : fOf (seen ++ [n]) = upd (fOf seen) (keyM n) (i (valM n)) := by simp [fOf]
theorem fold_same : ∀ (l : List Nat) (f : Nat → AV) (j : Nat), (∀ b ∈ l, keyM b ≠ j) → l.foldl (fun f n => upd f (keyM n) (i (valM n))) f j = f j
  | [], _, _, _ => rfl
  | a :: l, f, j, h => by
    rw [List.foldl_cons, fold_same l _ j (fun b hb => h b (List.mem_cons_of_mem _ hb))]
    have h1 : keyM a ≠ j := h a (List.mem_cons_self ..)
    unfold upd
    cases hq : Nat.beq j (keyM a) with
    | false => rfl
    | true => exact absurd (Nat.eq_of_beq_eq_true hq).symm h1
theorem keyM_inj {a b : Nat} (ha : a < 5) (hb : b < 5) (h : keyM a = keyM b) : a = b := by
  have : ∀ a b : Fin 5, keyM a.val = keyM b.val → a = b := by decide
  have := this ⟨a, ha⟩ ⟨b, hb⟩ h
  exact congrArg Fin.val this
theorem fold_at : ∀ (l : List Nat) (f : Nat → AV) (a : Nat), (∀ b ∈ l, b < 5) → a ∈ l → l.foldl (fun f n => upd f (keyM n) (i (valM n))) f (keyM a) = i (valM a)
  | [], _, _, _, h => by cases h
  | b :: l, f, a, hl, h => by
    rw [List.foldl_cons]
    by_cases hal : a ∈ l
    · exact fold_at l _ a (fun c hc => hl c (List.mem_cons_of_mem _ hc)) hal
    · have hab : a = b := by
        rcases List.mem_cons.1 h with h | h
        · exact h
        · exact absurd h hal
      subst hab
      rw [fold_same]
      · have : Nat.beq (keyM a) (keyM a) = true := Nat.beq_refl _
        simp only [upd, this]
      · intro c hc e
        have := keyM_inj (hl c (List.mem_cons_of_mem _ hc)) (hl a (List.mem_cons_self ..)) e
        subst this
        exact hal hc
theorem fOf_end {seen : List Nat} (hl : ∀ b ∈ seen, b < 5) (h : ∀ n, n < 5 → n ∈ seen) : fOf seen = fEnd := by
  funext j
  by_cases hj : j = 0 ∨ j = 5 ∨ j = 8 ∨ j = 9 ∨ j = 3
  · rcases hj with rfl | rfl | rfl | rfl | rfl
    · exact fold_at seen f0 0 hl (h 0 (by omega))
    · exact fold_at seen f0 1 hl (h 1 (by omega))
    · exact fold_at seen f0 2 hl (h 2 (by omega))
    · exact fold_at seen f0 3 hl (h 3 (by omega))
    · exact fold_at seen f0 4 hl (h 4 (by omega))
  · have h1 : fOf seen j = f0 j := fold_same seen f0 j (fun b hb e => by
      have hb5 := hl b hb
      have : keyM b = 0 ∨ keyM b = 5 ∨ keyM b = 8 ∨ keyM b = 9 ∨ keyM b = 3 := by
        have : ∀ b : Fin 5, keyM b.val = 0 ∨ keyM b.val = 5 ∨ keyM b.val = 8 ∨ keyM b.val = 9 ∨ keyM b.val = 3 := by decide
        exact this ⟨b, hb5⟩
      rw [e] at this
      exact hj this)
    rw [h1]
    unfold fEnd f0
    split <;> first
      | rfl
      | (exfalso; apply hj; simp)

/-! ### the loop -/
def left (seen : List Nat) : Nat := ((List.range 5).filter fun j => !seen.contains j).length
theorem left_less {seen : List Nat} {n : Nat} (hn : n < 5) (hs : n ∉ seen) : left (seen ++ [n]) < left seen := by
  unfold left
  have h1 : (List.range 5).filter (fun j => !(seen ++ [n]).contains j) = ((List.range 5).filter fun j => !seen.contains j).filter (fun j => !(j == n)) := by
    rw [List.filter_filter]
    congr 1
    funext j
    by_cases hj : j = n <;> simp [hj]
  rw [h1, List.length_filter_lt_length_iff_exists]
  refine ⟨n, List.mem_filter.2 ⟨List.mem_range.2 hn, ?_⟩, by simp⟩
  simpa using hs
theorem entM_at {n : Nat} {kv vv : AV} (h : entM[n]? = some (kv, vv)) : kv = i (keyM n) ∧ vv = i (valM n) := by
  match n with
  | 0 => cases h; exact ⟨rfl, rfl⟩
  | 1 => cases h; exact ⟨rfl, rfl⟩
  | 2 => cases h; exact ⟨rfl, rfl⟩
  | 3 => cases h; exact ⟨rfl, rfl⟩
  | 4 => cases h; exact ⟨rfl, rfl⟩
  | n + 5 => cases h
section
variable {W0 : World} {CS : List Frame} (hE : EnvOK E1) (hH : HookOK E1 W0) (hmix : E1.P.follows .mixedOrders = true)
include hE hH hmix
theorem marks_loop : ∀ (q : Nat) (seen : List Nat) (y : Nat → AV) (m : Machine), left seen ≤ q → (∀ b ∈ seen, b < 5) → Stands E1 W0 CS (Lst (fOf seen) y seen) m →
    ∃ m', Steps E1.P m m' ∧ Stands E1 W0 CS ⟨bStart0F, bStart0C, layH bStart0K bStart0O, bStart0N⟩ m' := by
  intro q
  induction q with
  | zero =>
    intro seen y m hq hl hst
    obtain ⟨v, h', hcase, hres⟩ := next_op hH hst rfl (L_top _ _ _) (L_guard _ _ _) (L_op _ _ _) (L_x _ _ _) (es := entM) (L_gi _ _ _) (L_es _ _ _) L_old (Pos.beq_false_iff.1 L_ne) ⟨27, L_dst (fOf seen) y seen, (by decide : 27 < 37)⟩
    rcases hcase with ⟨rfl, rfl, hall⟩ | ⟨n, kv, vv, hn, hns, _, _, _⟩
    · obtain ⟨m1, h1, h2⟩ := hres ((Ltm y).put 27 (.tuple [.bool false])) (by rw [L_dst]; rfl)
      have he := fOf_end hl (fun n hn => hall n hn)
      rw [he] at h2
      obtain ⟨m', h3, h4⟩ := plainK hE hH hmix (Z_run y seen) (s := Zst fEnd y seen) h2
      exact ⟨m', Steps.trans h1 h3, h4⟩
    · have hn5 : n < 5 := hn
      have := left_less (seen := seen) hn5 hns
      omega
  | succ q ih =>
    intro seen y m hq hl hst
    obtain ⟨v, h', hcase, hres⟩ := next_op hH hst rfl (L_top _ _ _) (L_guard _ _ _) (L_op _ _ _) (L_x _ _ _) (es := entM) (L_gi _ _ _) (L_es _ _ _) L_old (Pos.beq_false_iff.1 L_ne) ⟨27, L_dst (fOf seen) y seen, (by decide : 27 < 37)⟩
    rcases hcase with ⟨rfl, rfl, hall⟩ | ⟨n, kv, vv, hn, hns, hat, rfl, rfl⟩
    · obtain ⟨m1, h1, h2⟩ := hres ((Ltm y).put 27 (.tuple [.bool false])) (by rw [L_dst]; rfl)
      have he := fOf_end hl (fun n hn => hall n hn)
      rw [he] at h2
      obtain ⟨m', h3, h4⟩ := plainK hE hH hmix (Z_run y seen) (s := Zst fEnd y seen) h2
      exact ⟨m', Steps.trans h1 h3, h4⟩
    · obtain ⟨rfl, rfl⟩ := entM_at hat
      obtain ⟨m1, h1, h2⟩ := hres ((Ltm y).put 27 (.tuple [.bool true, i (keyM n), i (valM n)])) (by rw [L_dst]; rfl)
      have hn5 : n < 5 := hn
      have hrun := N_run (fOf seen) y seen n hn5
      obtain ⟨m2, h3, h4⟩ := run_sound hE hH (draw_ok hE hH hmix CS) 7 (Nst (fOf seen) y seen (seen ++ [n]) (.tuple [.bool true, i (keyM n), i (valM n)])) (Est (fOf seen) y seen n) m1 h2 hrun
      obtain ⟨g1, g2, g3, g4, g5, g6, g7⟩ := E_all (fOf seen) y seen n hn5
      obtain ⟨m3, h5, h6⟩ := entry_op hH h4 g1 (E_top (fOf seen) y seen n hn5) g2 g3 (es := entM) (seen := seen) (i := n) g4 g5 g6 hat g7
      obtain ⟨m4, h7, h8⟩ := plainK hE hH hmix (F_run (fOf seen) y seen n hn5) (s := Fst (fOf seen) y seen n) (by unfold Fst; exact h6)
      rw [← fOf_app] at h8
      obtain ⟨m', h9, h10⟩ := ih (seen ++ [n]) _ m4 (by have := left_less (seen := seen) hn5 hns; omega) (fun b hb => by
        rcases List.mem_append.1 hb with hb | hb
        · exact hl b hb
        · simp at hb; omega) h8
      exact ⟨m', Steps.trans h1 (Steps.trans h3 (Steps.trans h5 (Steps.trans h7 h9))), h10⟩
omit hE hH hmix in
theorem tget_self (t t0 : T AV) (h : ∀ j, tget t j = tget t0 j) (a j : Nat) : tget (t.put a (tget t0 a)) j = tget t0 j := by
  unfold tget
  rw [T.at_put]
  by_cases e : a = j
  · subst e; simp
  · rw [if_neg e]; exact h j
omit hE hH hmix in
theorem tget_Ltm (j : Nat) : tget (Ltm (tget lB)) j = tget lB j := by
  unfold Ltm
  iterate 11 refine tget_self _ _ (fun j => ?_) _ j
  rfl
/-- gen.Marks' loop, whatever order the map gives. -/
theorem marks {m : Machine} (hst : Stands E1 W0 CS A0 m) : ∃ m', Steps E1.P m m' ∧ Stands E1 W0 CS ⟨bStart0F, bStart0C, layH bStart0K bStart0O, bStart0N⟩ m' := by
  obtain ⟨m1, h1, h2⟩ := run_sound hE hH (draw_ok hE hH hmix CS) 3 A0 A1 m hst A1_run
  obtain ⟨m2, h3, h4⟩ := partOps_ok hE hH 4 A1 A2 m1 h2 A1_mode A2_run
  obtain ⟨m3, h5, h6⟩ := range_op hH h4 A2_mode A2_top A2_guard A2_op A2_ty A2_x A2_es (Pos.beq_false_iff.1 A2_ne) A2_set
  obtain ⟨m4, h7, h8⟩ := plainK hE hH hmix A3_run (s := A3) h6
  have h9 := stands_tmps (s := ⟨⟨42, 37, lB, lT, [], .run, false, none⟩, lC, layH lK (lO f0 []), lN⟩) lT_top h8 (t' := Ltm (tget lB)) tget_Ltm
  obtain ⟨m', h10, h11⟩ := marks_loop hE hH hmix 5 [] (tget lB) m4 (by decide) (by simp) h9
  exact ⟨m', Steps.trans h1 (Steps.trans h3 (Steps.trans h5 (Steps.trans h7 h10))), h11⟩
end
end
end Go.Vm
end
