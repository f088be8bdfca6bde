/- DebugBack returns true for every list, index and number, and changes nothing that lay before. No conditions. Part FA. -/
import Derived.Test.YtnlkhnbbkjejkaaGreatDoorVE
set_option linter.unusedSimpArgs false
set_option linter.unusedVariables false
section
namespace Go.Vm
noncomputable section

/-! ### trees, by their recursors alone -/
def getO (t : T Obj) (p : Pos) : Option Obj :=
  T.rec (motive := fun _ => Pos → Option Obj) (fun _ => none)
    (fun _ o _ gl gr p => Pos.rec (motive := fun _ => Option Obj → (Pos → Option Obj) → (Pos → Option Obj) → Option Obj) (fun o _ _ => o) (fun q _ _ gl _ => gl q) (fun q _ _ _ gr => gr q) p o gl gr) t p
def getX (t : T (AV × Nat)) (p : Pos) : Option (AV × Nat) :=
  T.rec (motive := fun _ => Pos → Option (AV × Nat)) (fun _ => none)
    (fun _ o _ gl gr p => Pos.rec (motive := fun _ => Option (AV × Nat) → (Pos → Option (AV × Nat)) → (Pos → Option (AV × Nat)) → Option (AV × Nat)) (fun o _ _ => o) (fun q _ _ gl _ => gl q) (fun q _ _ _ gr => gr q) p o gl gr) t p
def getFn (t : T Func) (p : Pos) : Option Func :=
  T.rec (motive := fun _ => Pos → Option Func) (fun _ => none)
    (fun _ o _ gl gr p => Pos.rec (motive := fun _ => Option Func → (Pos → Option Func) → (Pos → Option Func) → Option Func) (fun o _ _ => o) (fun q _ _ gl _ => gl q) (fun q _ _ _ gr => gr q) p o gl gr) t p
def getTy (t : T TypeInfo) (p : Pos) : Option TypeInfo :=
  T.rec (motive := fun _ => Pos → Option TypeInfo) (fun _ => none)
    (fun _ o _ gl gr p => Pos.rec (motive := fun _ => Option TypeInfo → (Pos → Option TypeInfo) → (Pos → Option TypeInfo) → Option TypeInfo) (fun o _ _ => o) (fun q _ _ gl _ => gl q) (fun q _ _ _ gr => gr q) p o gl gr) t p
def getV (t : T AV) (p : Pos) : AV :=
  T.rec (motive := fun _ => Pos → AV) (fun _ => undefA)
    (fun _ o _ gl gr p => Pos.rec (motive := fun _ => Option AV → (Pos → AV) → (Pos → AV) → AV) (fun o _ _ => Option.rec (motive := fun _ => AV) undefA (fun v => v) o) (fun q _ _ gl _ => gl q) (fun q _ _ _ gr => gr q) p o gl gr) t p
def oneV (x : AV) (p : Pos) : T AV :=
  Pos.rec (motive := fun _ => AV → T AV) (fun x => .node .leaf (some x) .leaf) (fun _ ih x => .node (ih x) none .leaf) (fun _ ih x => .node .leaf none (ih x)) p x
def setV (x : AV) (t : T AV) (p : Pos) : T AV :=
  T.rec (motive := fun _ => Pos → AV → T AV) (fun p x => oneV x p)
    (fun l o r sl sr p x => Pos.rec (motive := fun _ => T AV → Option AV → T AV → (Pos → AV → T AV) → (Pos → AV → T AV) → AV → T AV)
      (fun l _ r _ _ x => .node l (some x) r) (fun q _ _ o r sl _ x => .node (sl q x) o r) (fun q _ l o _ _ sr x => .node l o (sr q x)) p l o r sl sr x) t p x
def oneO (x : Obj) (p : Pos) : T Obj :=
  Pos.rec (motive := fun _ => Obj → T Obj) (fun x => .node .leaf (some x) .leaf) (fun _ ih x => .node (ih x) none .leaf) (fun _ ih x => .node .leaf none (ih x)) p x
def setO (x : Obj) (t : T Obj) (p : Pos) : T Obj :=
  T.rec (motive := fun _ => Pos → Obj → T Obj) (fun p x => oneO x p)
    (fun l o r sl sr p x => Pos.rec (motive := fun _ => T Obj → Option Obj → T Obj → (Pos → Obj → T Obj) → (Pos → Obj → T Obj) → Obj → T Obj)
      (fun l _ r _ _ x => .node l (some x) r) (fun q _ _ o r sl _ x => .node (sl q x) o r) (fun q _ l o _ _ sr x => .node l o (sr q x)) p l o r sl sr x) t p x

/-! ### lists -/
def nthV (n : Nat) (l : List AV) : Option AV :=
  Nat.rec (motive := fun _ => List AV → Option AV) (fun l => List.rec (motive := fun _ => Option AV) none (fun x _ _ => some x) l)
    (fun _ ih l => List.rec (motive := fun _ => (List AV → Option AV) → Option AV) (fun _ => none) (fun _ l _ ih => ih l) l ih) n l
def dropV (n : Nat) (l : List AV) : List AV :=
  Nat.rec (motive := fun _ => List AV → List AV) (fun l => l)
    (fun _ ih l => List.rec (motive := fun _ => (List AV → List AV) → List AV) (fun _ => []) (fun _ l _ ih => ih l) l ih) n l
def takeV (n : Nat) (l : List AV) : Option (List AV) :=
  Nat.rec (motive := fun _ => List AV → Option (List AV)) (fun _ => some [])
    (fun _ ih l => List.rec (motive := fun _ => (List AV → Option (List AV)) → Option (List AV)) (fun _ => none)
      (fun x l _ ih => Option.rec (motive := fun _ => AV → Option (List AV)) (fun _ => none) (fun k x => some (x :: k)) (ih l) x) l ih) n l
/-- as putHead -/
def putH (xs : List AV) (l : List AV) : Option (List AV) :=
  List.rec (motive := fun _ => List AV → Option (List AV)) (fun l => some l)
    (fun x _ ih l => List.rec (motive := fun _ => AV → (List AV → Option (List AV)) → Option (List AV)) (fun _ _ => none)
      (fun _ l _ x ih => Option.rec (motive := fun _ => AV → Option (List AV)) (fun _ => none) (fun k x => some (x :: k)) (ih l) x) l x ih) xs l
/-- as putAt -/
def putV (n : Nat) (l xs : List AV) : Option (List AV) :=
  Nat.rec (motive := fun _ => List AV → List AV → Option (List AV)) (fun l xs => putH xs l)
    (fun _ ih l xs => List.rec (motive := fun _ => List AV → (List AV → List AV → Option (List AV)) → Option (List AV)) (fun _ _ => none)
      (fun y l _ xs ih => Option.rec (motive := fun _ => AV → Option (List AV)) (fun _ => none) (fun k y => some (y :: k)) (ih l xs) y) l xs ih) n l xs
def lenV (l : List AV) : Nat := List.rec (motive := fun _ => Nat) 0 (fun _ _ ih => Nat.add ih 1) l
def appV (l m : List AV) : List AV := List.rec (motive := fun _ => List AV → List AV) (fun m => m) (fun x _ ih m => x :: ih m) l m
def cellsV (x : AV) : List AV :=
  AV.rec (motive_1 := fun _ => AV → List AV) (motive_2 := fun _ => Unit)
    (fun _ x => [x]) (fun _ _ x => [x]) (fun _ x => [x]) (fun _ _ _ x => [x]) (fun x => [x]) (fun _ _ _ _ _ _ x => [x]) (fun x => [x]) (fun _ x => [x]) (fun x => [x]) (fun _ _ _ _ _ x => [x]) (fun _ x => [x]) (fun x => [x]) (fun _ _ _ x => [x]) (fun x => [x])
    (fun cs _ _ => cs) (fun _ _ x => [x]) () (fun _ _ _ _ => ()) x x
/-- values of one cell each -/
def flatV (l : List AV) : Bool :=
  List.rec (motive := fun _ => Bool) true (fun x _ ih => AV.rec (motive_1 := fun _ => Bool → Bool) (motive_2 := fun _ => Unit)
    (fun _ g => g) (fun _ _ g => g) (fun _ g => g) (fun _ _ _ g => g) (fun g => g) (fun _ _ _ _ _ _ g => g) (fun g => g) (fun _ g => g) (fun g => g) (fun _ _ _ _ _ g => g) (fun _ g => g) (fun g => g) (fun _ _ _ g => g) (fun g => g)
    (fun _ _ _ => false) (fun _ _ _ => false) () (fun _ _ _ _ => ()) x ih) l

def asInt (x : AV) (f : IntKind → Int → Option AV) (g : Option AV) : Option AV :=
  AV.rec (motive_1 := fun _ => (IntKind → Int → Option AV) → Option AV → Option AV) (motive_2 := fun _ => Unit)
    (fun _ _ g => g) (fun a0 a1 f _ => f a0 a1) (fun _ _ g => g) (fun _ _ _ _ g => g) (fun _ g => g) (fun _ _ _ _ _ _ _ g => g) (fun _ g => g) (fun _ _ g => g) (fun _ g => g) (fun _ _ _ _ _ _ g => g) (fun _ _ g => g) (fun _ g => g) (fun _ _ _ _ g => g) (fun _ g => g) (fun _ _ _ g => g) (fun _ _ _ g => g) () (fun _ _ _ _ => ()) x f g
def asStr (x : AV) (f : Nat → Option AV) (g : Option AV) : Option AV :=
  AV.rec (motive_1 := fun _ => (Nat → Option AV) → Option AV → Option AV) (motive_2 := fun _ => Unit)
    (fun _ _ g => g) (fun _ _ _ g => g) (fun a0 f _ => f a0) (fun _ _ _ _ g => g) (fun _ g => g) (fun _ _ _ _ _ _ _ g => g) (fun _ g => g) (fun _ _ g => g) (fun _ g => g) (fun _ _ _ _ _ _ g => g) (fun _ _ g => g) (fun _ g => g) (fun _ _ _ _ g => g) (fun _ g => g) (fun _ _ _ g => g) (fun _ _ _ g => g) () (fun _ _ _ _ => ()) x f g
def asBool (x : AV) (f : Bool → Option AV) (g : Option AV) : Option AV :=
  AV.rec (motive_1 := fun _ => (Bool → Option AV) → Option AV → Option AV) (motive_2 := fun _ => Unit)
    (fun a0 f _ => f a0) (fun _ _ _ g => g) (fun _ _ g => g) (fun _ _ _ _ g => g) (fun _ g => g) (fun _ _ _ _ _ _ _ g => g) (fun _ g => g) (fun _ _ g => g) (fun _ g => g) (fun _ _ _ _ _ _ g => g) (fun _ _ g => g) (fun _ g => g) (fun _ _ _ _ g => g) (fun _ g => g) (fun _ _ _ g => g) (fun _ _ _ g => g) () (fun _ _ _ _ => ()) x f g
def asPtr (x : AV) (f : Pos → Nat → Nat → Option AV) (g : Option AV) : Option AV :=
  AV.rec (motive_1 := fun _ => (Pos → Nat → Nat → Option AV) → Option AV → Option AV) (motive_2 := fun _ => Unit)
    (fun _ _ g => g) (fun _ _ _ g => g) (fun _ _ g => g) (fun a0 a1 a2 f _ => f a0 a1 a2) (fun _ g => g) (fun _ _ _ _ _ _ _ g => g) (fun _ g => g) (fun _ _ g => g) (fun _ g => g) (fun _ _ _ _ _ _ g => g) (fun _ _ g => g) (fun _ g => g) (fun _ _ _ _ g => g) (fun _ g => g) (fun _ _ _ g => g) (fun _ _ _ g => g) () (fun _ _ _ _ => ()) x f g
def asSlice (x : AV) (f : Pos → Nat → Nat → Nat → Option Nat → Nat → Option AV) (g : Option AV) : Option AV :=
  AV.rec (motive_1 := fun _ => (Pos → Nat → Nat → Nat → Option Nat → Nat → Option AV) → Option AV → Option AV) (motive_2 := fun _ => Unit)
    (fun _ _ g => g) (fun _ _ _ g => g) (fun _ _ g => g) (fun _ _ _ _ g => g) (fun _ g => g) (fun a0 a1 a2 a3 a4 a5 f _ => f a0 a1 a2 a3 a4 a5) (fun _ g => g) (fun _ _ g => g) (fun _ g => g) (fun _ _ _ _ _ _ g => g) (fun _ _ g => g) (fun _ g => g) (fun _ _ _ _ g => g) (fun _ g => g) (fun _ _ _ g => g) (fun _ _ _ g => g) () (fun _ _ _ _ => ()) x f g
def asAgg (x : AV) (f : List AV → Option AV) (g : Option AV) : Option AV :=
  AV.rec (motive_1 := fun _ => (List AV → Option AV) → Option AV → Option AV) (motive_2 := fun _ => Unit)
    (fun _ _ g => g) (fun _ _ _ g => g) (fun _ _ g => g) (fun _ _ _ _ g => g) (fun _ g => g) (fun _ _ _ _ _ _ _ g => g) (fun _ g => g) (fun _ _ g => g) (fun _ g => g) (fun _ _ _ _ _ _ g => g) (fun _ _ g => g) (fun _ g => g) (fun _ _ _ _ g => g) (fun _ g => g) (fun a0 _ f _ => f a0) (fun _ _ _ g => g) () (fun _ _ _ _ => ()) x f g
def asTuple (x : AV) (f : List AV → Option AV) (g : Option AV) : Option AV :=
  AV.rec (motive_1 := fun _ => (List AV → Option AV) → Option AV → Option AV) (motive_2 := fun _ => Unit)
    (fun _ _ g => g) (fun _ _ _ g => g) (fun _ _ g => g) (fun _ _ _ _ g => g) (fun _ g => g) (fun _ _ _ _ _ _ _ g => g) (fun _ g => g) (fun _ _ g => g) (fun _ g => g) (fun _ _ _ _ _ _ g => g) (fun _ _ g => g) (fun _ g => g) (fun _ _ _ _ g => g) (fun _ g => g) (fun _ _ _ g => g) (fun a0 _ f _ => f a0) () (fun _ _ _ _ => ()) x f g
def asIface (x : AV) (f : TypeId → AV → Option AV) (g : Option AV) : Option AV :=
  AV.rec (motive_1 := fun _ => (TypeId → AV → Option AV) → Option AV → Option AV) (motive_2 := fun _ => Unit)
    (fun _ _ g => g) (fun _ _ _ g => g) (fun _ _ g => g) (fun _ _ _ _ g => g) (fun _ g => g) (fun _ _ _ _ _ _ _ g => g) (fun _ g => g) (fun _ _ g => g) (fun _ g => g) (fun _ _ _ _ _ _ g => g) (fun _ _ g => g) (fun _ g => g) (fun a0 a1 _ f _ => f a0 a1) (fun _ g => g) (fun _ _ _ g => g) (fun _ _ _ g => g) () (fun _ _ _ _ => ()) x f g
def asMap (x : AV) (f : Pos → Option AV) (g : Option AV) : Option AV :=
  AV.rec (motive_1 := fun _ => (Pos → Option AV) → Option AV → Option AV) (motive_2 := fun _ => Unit)
    (fun _ _ g => g) (fun _ _ _ g => g) (fun _ _ g => g) (fun _ _ _ _ g => g) (fun _ g => g) (fun _ _ _ _ _ _ _ g => g) (fun _ g => g) (fun a0 f _ => f a0) (fun _ g => g) (fun _ _ _ _ _ _ g => g) (fun _ _ g => g) (fun _ g => g) (fun _ _ _ _ g => g) (fun _ g => g) (fun _ _ _ g => g) (fun _ _ _ g => g) () (fun _ _ _ _ => ()) x f g
def asIntB (x : AV) (f : IntKind → Int → Bool) (g : Bool) : Bool :=
  AV.rec (motive_1 := fun _ => (IntKind → Int → Bool) → Bool → Bool) (motive_2 := fun _ => Unit)
    (fun _ _ g => g) (fun a0 a1 f _ => f a0 a1) (fun _ _ g => g) (fun _ _ _ _ g => g) (fun _ g => g) (fun _ _ _ _ _ _ _ g => g) (fun _ g => g) (fun _ _ g => g) (fun _ g => g) (fun _ _ _ _ _ _ g => g) (fun _ _ g => g) (fun _ g => g) (fun _ _ _ _ g => g) (fun _ g => g) (fun _ _ _ g => g) (fun _ _ _ g => g) () (fun _ _ _ _ => ()) x f g
def asStrB (x : AV) (f : Nat → Bool) (g : Bool) : Bool :=
  AV.rec (motive_1 := fun _ => (Nat → Bool) → Bool → Bool) (motive_2 := fun _ => Unit)
    (fun _ _ g => g) (fun _ _ _ g => g) (fun a0 f _ => f a0) (fun _ _ _ _ g => g) (fun _ g => g) (fun _ _ _ _ _ _ _ g => g) (fun _ g => g) (fun _ _ g => g) (fun _ g => g) (fun _ _ _ _ _ _ g => g) (fun _ _ g => g) (fun _ g => g) (fun _ _ _ _ g => g) (fun _ g => g) (fun _ _ _ g => g) (fun _ _ _ g => g) () (fun _ _ _ _ => ()) x f g
def asBoolB (x : AV) (f : Bool → Bool) (g : Bool) : Bool :=
  AV.rec (motive_1 := fun _ => (Bool → Bool) → Bool → Bool) (motive_2 := fun _ => Unit)
    (fun a0 f _ => f a0) (fun _ _ _ g => g) (fun _ _ g => g) (fun _ _ _ _ g => g) (fun _ g => g) (fun _ _ _ _ _ _ _ g => g) (fun _ g => g) (fun _ _ g => g) (fun _ g => g) (fun _ _ _ _ _ _ g => g) (fun _ _ g => g) (fun _ g => g) (fun _ _ _ _ g => g) (fun _ g => g) (fun _ _ _ g => g) (fun _ _ _ g => g) () (fun _ _ _ _ => ()) x f g
def asPtrB (x : AV) (f : Pos → Nat → Nat → Bool) (g : Bool) : Bool :=
  AV.rec (motive_1 := fun _ => (Pos → Nat → Nat → Bool) → Bool → Bool) (motive_2 := fun _ => Unit)
    (fun _ _ g => g) (fun _ _ _ g => g) (fun _ _ g => g) (fun a0 a1 a2 f _ => f a0 a1 a2) (fun _ g => g) (fun _ _ _ _ _ _ _ g => g) (fun _ g => g) (fun _ _ g => g) (fun _ g => g) (fun _ _ _ _ _ _ g => g) (fun _ _ g => g) (fun _ g => g) (fun _ _ _ _ g => g) (fun _ g => g) (fun _ _ _ g => g) (fun _ _ _ g => g) () (fun _ _ _ _ => ()) x f g
def asAggB (x : AV) (f : List AV → Bool) (g : Bool) : Bool :=
  AV.rec (motive_1 := fun _ => (List AV → Bool) → Bool → Bool) (motive_2 := fun _ => Unit)
    (fun _ _ g => g) (fun _ _ _ g => g) (fun _ _ g => g) (fun _ _ _ _ g => g) (fun _ g => g) (fun _ _ _ _ _ _ _ g => g) (fun _ g => g) (fun _ _ g => g) (fun _ g => g) (fun _ _ _ _ _ _ g => g) (fun _ _ g => g) (fun _ g => g) (fun _ _ _ _ g => g) (fun _ g => g) (fun a0 _ f _ => f a0) (fun _ _ _ g => g) () (fun _ _ _ _ => ()) x f g
def asPtrH (x : AV) (f : Pos → Nat → Nat → Option (T Obj)) (g : Option (T Obj)) : Option (T Obj) :=
  AV.rec (motive_1 := fun _ => (Pos → Nat → Nat → Option (T Obj)) → Option (T Obj) → Option (T Obj)) (motive_2 := fun _ => Unit)
    (fun _ _ g => g) (fun _ _ _ g => g) (fun _ _ g => g) (fun a0 a1 a2 f _ => f a0 a1 a2) (fun _ g => g) (fun _ _ _ _ _ _ _ g => g) (fun _ g => g) (fun _ _ g => g) (fun _ g => g) (fun _ _ _ _ _ _ g => g) (fun _ _ g => g) (fun _ g => g) (fun _ _ _ _ g => g) (fun _ g => g) (fun _ _ _ g => g) (fun _ _ _ g => g) () (fun _ _ _ _ => ()) x f g
def asMapH (x : AV) (f : Pos → Option (T Obj)) (g : Option (T Obj)) : Option (T Obj) :=
  AV.rec (motive_1 := fun _ => (Pos → Option (T Obj)) → Option (T Obj) → Option (T Obj)) (motive_2 := fun _ => Unit)
    (fun _ _ g => g) (fun _ _ _ g => g) (fun _ _ g => g) (fun _ _ _ _ g => g) (fun _ g => g) (fun _ _ _ _ _ _ _ g => g) (fun _ g => g) (fun a0 f _ => f a0) (fun _ g => g) (fun _ _ _ _ _ _ g => g) (fun _ _ g => g) (fun _ g => g) (fun _ _ _ _ g => g) (fun _ g => g) (fun _ _ _ g => g) (fun _ _ _ g => g) () (fun _ _ _ _ => ()) x f g

/-! ### numbers -/
def kCode (k : IntKind) : Nat := IntKind.rec (motive := fun _ => Nat) 0 1 2 3 4 5 6 7 k
def ltI (a b : Int) : Bool :=
  Int.rec (motive := fun _ => Int → Bool) (fun m b => Int.rec (motive := fun _ => Nat → Bool) (fun n m => Nat.ble (Nat.succ m) n) (fun _ _ => false) b m)
    (fun m b => Int.rec (motive := fun _ => Nat → Bool) (fun _ _ => true) (fun n m => Nat.ble (Nat.succ n) m) b m) a b
def eqI (a b : Int) : Bool :=
  Int.rec (motive := fun _ => Int → Bool) (fun m b => Int.rec (motive := fun _ => Nat → Bool) (fun n m => Nat.beq m n) (fun _ _ => false) b m)
    (fun m b => Int.rec (motive := fun _ => Nat → Bool) (fun _ _ => false) (fun n m => Nat.beq m n) b m) a b
def notB (z : Bool) : Bool := Bool.rec (motive := fun _ => Bool) true false z
def andB (z w : Bool) : Bool := Bool.rec (motive := fun _ => Bool → Bool) (fun _ => false) (fun w => w) z w
/-- a number of 64 bits: a sum that is small, and otherwise by the book -/
def addI (k : IntKind) (a b : Int) : Option AV :=
  Int.rec (motive := fun _ => Int → IntKind → Option AV)
    (fun m b k => Int.rec (motive := fun _ => Nat → IntKind → Option AV)
      (fun n m k => Bool.rec (motive := fun _ => Nat → Nat → IntKind → Option AV) (fun n m k => some (.int k (wrapA k (Int.ofNat m + Int.ofNat n))))
        (fun n m _ => some (.int .i64 (Int.ofNat (Nat.add m n)))) (andB (Nat.beq (kCode k) 3) (Nat.ble (Nat.add m n) 9223372036854775807)) n m k)
      (fun n m k => some (.int k (wrapA k (Int.ofNat m + Int.negSucc n)))) b m k)
    (fun m b k => some (.int k (wrapA k (Int.negSucc m + b)))) a b k

/-! ### what is looked up in the program -/
structure FE where
  E : Env
  funcs : T Func
  types : T TypeInfo
def infoF (F : FE) (t : TypeId) : Option TypeInfo := getTy F.types (nk t)
def underF (F : FE) (t : TypeId) : Option TypeDesc := match infoF F t with
  | some i => match i.desc with
    | .named _ u => match infoF F u with
      | some j => some j.desc
      | none => none
    | d => some d
  | none => none
def szF (F : FE) (t : TypeId) : Option Nat := match infoF F t with
  | some i => some i.size
  | none => none
def zeroF (F : FE) (t : TypeId) : Option AV := match infoF F t with
  | some i => match i.zero with
    | some z => absV 500 z
    | none => none
  | none => none
def aggF (F : FE) (t : TypeId) : Option Bool := match underF F t with
  | some (.struct _) => some true
  | some (.array _ _) => some true
  | some _ => some false
  | none => none

/-! ### memory -/
def arrCell (t : T (AV × Nat)) (latest : Nat) (ends : List Nat) (v c : Nat) : Option AV :=
  match endOf latest v ends with
  | some e => match Nat.ble (Nat.add c 1) e with
    | true => match getX t (nk c) with
      | some (x, o) => match Nat.ble o v with
        | true => some x
        | false => none
      | none => none
    | false => none
  | none => none
def objCell (o : Obj) (v c : Nat) : Option AV :=
  Obj.rec (motive := fun _ => Nat → Nat → Option AV) (fun cs _ v c => Nat.rec (motive := fun _ => List AV → Nat → Option AV) (fun cs c => nthV c cs) (fun _ _ _ _ => none) v cs c)
    (fun t latest ends _ _ v c => arrCell t latest ends v c) (fun _ _ _ => none) (fun _ _ _ => none) (fun _ _ _ => none) (fun _ _ _ _ _ => none) o v c
def cellR (h : T Obj) (g : Pos) (v c : Nat) : Option AV :=
  Option.rec (motive := fun _ => Nat → Nat → Option AV) (fun _ _ => none) (fun o v c => objCell o v c) (getO h g) v c
def toAgg (l : Option (List AV)) : Option AV := Option.rec (motive := fun _ => Option AV) none (fun l => some (.agg l)) l
def rowX (t : T (AV × Nat)) (v n c : Nat) : Option (List AV) :=
  Nat.rec (motive := fun _ => Nat → Nat → T (AV × Nat) → Option (List AV)) (fun _ _ _ => some [])
    (fun _ ih c v t => Option.rec (motive := fun _ => (Nat → Nat → T (AV × Nat) → Option (List AV)) → Nat → Nat → T (AV × Nat) → Option (List AV)) (fun _ _ _ _ => none)
      (fun x ih c v t => Prod.rec (motive := fun _ => (Nat → Nat → T (AV × Nat) → Option (List AV)) → Nat → Nat → T (AV × Nat) → Option (List AV))
        (fun x o ih c v t => Bool.rec (motive := fun _ => AV → (Nat → Nat → T (AV × Nat) → Option (List AV)) → Nat → Nat → T (AV × Nat) → Option (List AV)) (fun _ _ _ _ _ => none)
          (fun x ih c v t => Option.rec (motive := fun _ => AV → Option (List AV)) (fun _ => none) (fun l x => some (x :: l)) (ih (Nat.add c 1) v t) x) (Nat.ble o v) x ih c v t) x ih c v t)
      (getX t (nk c)) ih c v t) n c v t
def arrCells (t : T (AV × Nat)) (latest : Nat) (ends : List Nat) (v c n : Nat) : Option (List AV) :=
  match endOf latest v ends with
  | some e => match Nat.ble (Nat.add c n) e with
    | true => rowX t v n c
    | false => none
  | none => none
def cellsR (h : T Obj) (g : Pos) (v c n : Nat) : Option (List AV) :=
  Option.rec (motive := fun _ => Nat → Nat → Nat → Option (List AV)) (fun _ _ _ => none)
    (fun o v c n => Obj.rec (motive := fun _ => Nat → Nat → Nat → Option (List AV))
      (fun cs _ v c n => Nat.rec (motive := fun _ => List AV → Nat → Nat → Option (List AV)) (fun cs c n => takeV n (dropV c cs)) (fun _ _ _ _ _ => none) v cs c n)
      (fun t latest ends _ _ v c n => arrCells t latest ends v c n) (fun _ _ _ _ => none) (fun _ _ _ _ => none) (fun _ _ _ _ => none) (fun _ _ _ _ _ _ => none) o v c n) (getO h g) v c n
def valR (p : Pos) : Nat := Pos.rec (motive := fun _ => Nat) 1 (fun _ ih => Nat.mul 2 ih) (fun _ ih => Nat.add (Nat.mul 2 ih) 1) p
def setF (base : Nat) (h : T Obj) (g : Pos) (v c : Nat) (xs : List AV) : Option (T Obj) :=
  match Nat.ble (valR g) base with
  | true => none
  | false => match getO h g with
    | some o => match flatV xs with
      | true => match o with
        | .row cs e => match v with
          | 0 => match putV c cs xs with
            | some l => some (setO (.row l e) h g)
            | none => none
          | _ + 1 => none
        | o => match setObj o v c xs with
          | some o' => some (setO o' h g)
          | none => none
      | false => none
    | none => none

/-! ### operands and small operations, made ready -/
structure OB where
  run : T AV → AV
structure SB where
  run : T Obj → T AV → Option AV
def obTmp (p : Pos) (t : T AV) : AV := getV t p
def obVal (v : AV) (_ : T AV) : AV := v
def obOf (base : Nat) (x : Operand) : Option OB := match x with
  | .tmp k => some ⟨obTmp (nk k)⟩
  | x => match evalA base .leaf x with
    | some v => some ⟨obVal v⟩
    | none => none
def obsOf (base : Nat) : List Operand → Option (List OB)
  | [] => some []
  | x :: l => match obOf base x with
    | some a => match obsOf base l with
      | some k => some (a :: k)
      | none => none
    | none => none
def runObs (l : List OB) (t : T AV) : List AV := List.rec (motive := fun _ => T AV → List AV) (fun _ => []) (fun a _ ih t => OB.run a t :: ih t) l t
def genS (E : Env) (o : Oper) (h : T Obj) (t : T AV) : Option AV := opS E h t o
def sMove (a : OB) (_ : T Obj) (t : T AV) : Option AV := some (a.run t)
def sPick (c a b : OB) (_ : T Obj) (t : T AV) : Option AV :=
  asBool (c.run t) (fun z => Bool.rec (motive := fun _ => OB → OB → T AV → Option AV) (fun _ b t => some (b.run t)) (fun a _ t => some (a.run t)) z a b t) none
def sLoad1 (a : OB) (h : T Obj) (t : T AV) : Option AV := asPtr (a.run t) (fun g v c => cellR h g v c) none
def sLoadN (n : Nat) (a : OB) (h : T Obj) (t : T AV) : Option AV := asPtr (a.run t) (fun g v c => toAgg (cellsR h g v c n)) none
def sNil (a : OB) (_ : T Obj) (t : T AV) : Option AV := asPtr (a.run t) (fun g v c => some (.ptr g v c)) none
def sFieldA (off : Nat) (a : OB) (_ : T Obj) (t : T AV) : Option AV := asPtr (a.run t) (fun g v c => some (.ptr g v (Nat.add c off))) none
def part1 (off : Nat) (cs : List AV) : Option AV := nthV off cs
def partN (off n : Nat) (cs : List AV) : Option AV := toAgg (takeV n (dropV off cs))
def sField1 (off : Nat) (a : OB) (_ : T Obj) (t : T AV) : Option AV := asAgg (a.run t) (fun cs => part1 off cs) none
def sFieldN (off n : Nat) (a : OB) (_ : T Obj) (t : T AV) : Option AV := asAgg (a.run t) (fun cs => partN off n cs) none
def atB (z : Bool) (r : Option AV) : Option AV := Bool.rec (motive := fun _ => Option AV → Option AV) (fun _ => none) (fun r => r) z r
def natI (i : Int) (f : Nat → Option AV) : Option AV := Int.rec (motive := fun _ => (Nat → Option AV) → Option AV) (fun n f => f n) (fun _ _ => none) i f
def sIndexS (e : Nat) (a b : OB) (_ : T Obj) (t : T AV) : Option AV :=
  asSlice (a.run t) (fun p v c n _ es => asInt (b.run t) (fun _ i => natI i (fun i => atB (Nat.ble (Nat.succ i) n) (atB (Nat.beq e es) (some (.ptr p v (Nat.add c (Nat.mul i es))))))) none) none
def sIndexA (n e : Nat) (a b : OB) (_ : T Obj) (t : T AV) : Option AV :=
  asPtr (a.run t) (fun p v c => asInt (b.run t) (fun _ i => natI i (fun i => atB (Nat.ble (Nat.succ i) n) (some (.ptr p v (Nat.add c (Nat.mul i e)))))) none) none
def sStrAt (a b : OB) (_ : T Obj) (t : T AV) : Option AV :=
  asStr (a.run t) (fun s => asInt (b.run t) (fun _ i => natI i (fun i => atB (Nat.ble (Nat.succ i) (slen s)) (some (.int .u8 (Int.ofNat (sget s i)))))) none) none
def sInt2 (f : IntKind → Int → Int → Option AV) (g : T Obj → T AV → Option AV) (a b : OB) (h : T Obj) (t : T AV) : Option AV :=
  asInt (a.run t) (fun k m => asInt (b.run t) (fun k' n => atB (Nat.beq (kCode k) (kCode k')) (f k m n)) (g h t)) (g h t)
def sStr2 (op : BinOp) (g : T Obj → T AV → Option AV) (a b : OB) (h : T Obj) (t : T AV) : Option AV :=
  asStr (a.run t) (fun m => asStr (b.run t) (fun n => strOp op m n) (g h t)) (g h t)
def sNot (a : OB) (_ : T Obj) (t : T AV) : Option AV := asBool (a.run t) (fun z => some (.bool (notB z))) none
def sIface (ty : TypeId) (a : OB) (_ : T Obj) (t : T AV) : Option AV := some (.iface ty (a.run t))
def sFunc (k : FuncId) (a b : List OB) (_ : T Obj) (t : T AV) : Option AV := some (.func (.func k) (runObs a t) (runObs b t))
def sExtract (i : Nat) (a : OB) (_ : T Obj) (t : T AV) : Option AV := asTuple (a.run t) (fun l => nthV i l) none
def sLenS (g : T Obj → T AV → Option AV) (a : OB) (h : T Obj) (t : T AV) : Option AV := asSlice (a.run t) (fun _ _ _ n _ _ => some (.int .i64 (Int.ofNat n))) (g h t)
def sLenStr (g : T Obj → T AV → Option AV) (a : OB) (h : T Obj) (t : T AV) : Option AV := asStr (a.run t) (fun s => some (.int .i64 (Int.ofNat (slen s)))) (g h t)
def okB (ok : Bool) (v : AV) (z : Bool) : AV := Bool.rec (motive := fun _ => AV → Bool → AV) (fun v _ => v) (fun v z => .tuple [v, .bool z]) ok v z
def sAssert (ty : TypeId) (ok : Bool) (g : T Obj → T AV → Option AV) (a : OB) (h : T Obj) (t : T AV) : Option AV :=
  asIface (a.run t) (fun ty' v => Bool.rec (motive := fun _ => T Obj → T AV → Option AV) (fun h t => g h t) (fun _ _ => some (okB ok v true)) (Nat.beq ty' ty) h t) (g h t)
structure EB where
  run : T Obj → AV → AV → Option Bool
/-- the fields of a struct: where, how many cells (none: one, as it is), how they are held against each other -/
structure FF where
  off : Nat
  agg : Option Nat
  eb : EB
def eInt (_ : T Obj) (x y : AV) : Option Bool := match x, y with
  | .int k a, .int k' b => match Nat.beq (kCode k) (kCode k') with
    | true => some (eqI a b)
    | false => none
  | _, _ => none
def eqBy (fs : List FF) (h : T Obj) (xs ys : List AV) : Option Bool := match fs with
  | [] => some true
  | f :: fs => match (match f.agg with | none => part1 f.off xs | some n => partN f.off n xs), (match f.agg with | none => part1 f.off ys | some n => partN f.off n ys) with
    | some x, some y => match f.eb.run h x y with
      | some true => eqBy fs h xs ys
      | some false => some false
      | none => none
    | _, _ => none
def ebOf (F : FE) (d : Nat) (t : TypeId) : EB := match underF F t with
  | some (.int _) => match d with
    | 0 => ⟨fun _ _ _ => none⟩
    | _ + 1 => ⟨eInt⟩
  | _ => ⟨fun h x y => eqA F.E.P h d t x y⟩
def ffOf (F : FE) (d : Nat) : List Field → Option (List FF)
  | [] => some []
  | f :: fs => match (f.name == "_") with
    | true => ffOf F d fs
    | false => match aggF F f.type, szF F f.type with
      | some z, some n => match ffOf F d fs with
        | some l => some (⟨f.offset, (match z with | true => some n | false => none), ebOf F d f.type⟩ :: l)
        | none => none
      | _, _ => none
def sStruct (neg : Bool) (fs : List FF) (g : T Obj → T AV → Option AV) (a b : OB) (h : T Obj) (t : T AV) : Option AV :=
  asAgg (a.run t) (fun xs => asAgg (b.run t) (fun ys => Option.rec (motive := fun _ => Bool → Option AV) (fun _ => none) (fun z neg => some (.bool (Bool.rec (motive := fun _ => Bool → Bool) (fun z => z) (fun z => notB z) neg z))) (eqBy fs h xs ys) neg) (g h t)) (g h t)
/-- the parts of a value that is built -/
structure PB where
  off : Nat
  size : Nat
  ob : OB
def fillF (l : List PB) (t : T AV) (cells : List AV) : Option (List AV) :=
  List.rec (motive := fun _ => T AV → List AV → Option (List AV)) (fun _ cells => some cells)
    (fun p _ ih t cells => PB.rec (motive := fun _ => (T AV → List AV → Option (List AV)) → T AV → List AV → Option (List AV))
      (fun off size ob ih t cells => Bool.rec (motive := fun _ => Nat → OB → (T AV → List AV → Option (List AV)) → T AV → List AV → Option (List AV)) (fun _ _ _ _ _ => none)
        (fun off ob ih t cells => Option.rec (motive := fun _ => (T AV → List AV → Option (List AV)) → T AV → Option (List AV)) (fun _ _ => none) (fun l ih t => ih t l) (putV off cells (cellsV (ob.run t))) ih t)
        (Nat.beq (lenV (cellsV (ob.run t))) size) off ob ih t cells) p ih t cells) l t cells
def sBuild (l : List PB) (z : List AV) (_ : T Obj) (t : T AV) : Option AV := toAgg (fillF l t z)
def partsF (base : Nat) (place : Nat → Option (Nat × Nat)) : List (Nat × Operand) → Option (List PB)
  | [] => some []
  | (i, x) :: l => match place i, obOf base x with
    | some (off, size), some a => match partsF base place l with
      | some k => some (⟨off, size, a⟩ :: k)
      | none => none
    | _, _ => none
def findF (k : AV) (es : List (AV × AV)) (b : Bool) : Option AV :=
  match findA (match b with | true => (fun x y => match x, y with | .str a, .str b => some (Nat.beq a b) | _, _ => none) | false => (fun x y => match x, y with
    | .int k a, .int k' b => match Nat.beq (kCode k) (kCode k') with
      | true => some (eqI a b)
      | false => none
    | _, _ => none)) k es with
  | some (some v) => some v
  | _ => none

def intF (op : BinOp) : Option (IntKind → Int → Int → Option AV) := match op with
  | .add => some addI
  | .eql => some fun _ a b => some (.bool (eqI a b))
  | .neq => some fun _ a b => some (.bool (notB (eqI a b)))
  | .lss => some fun _ a b => some (.bool (ltI a b))
  | .leq => some fun _ a b => some (.bool (notB (ltI b a)))
  | .gtr => some fun _ a b => some (.bool (ltI b a))
  | .geq => some fun _ a b => some (.bool (notB (ltI a b)))
  | _ => none
def isEqOp : BinOp → Option Bool
  | .eql => some false
  | .neq => some true
  | _ => none
def sbBin (F : FE) (o : Oper) (op : BinOp) (ty : TypeId) (x y : Operand) : SB := match obOf F.E.base x, obOf F.E.base y with
  | some a, some b => match underF F ty with
    | some (.int _) => match intF op with
      | some f => ⟨sInt2 f (genS F.E o) a b⟩
      | none => ⟨genS F.E o⟩
    | some .string => ⟨sStr2 op (genS F.E o) a b⟩
    | some (.struct fields) => match isEqOp op with
      | some neg => match !(F.E.P.eqGuardType F.E.P.depth ty) && !(F.E.P.stoodInHeld ty) with
        | true => match ffOf F 7 fields.toList with
          | some fs => ⟨sStruct neg fs (genS F.E o) a b⟩
          | none => ⟨genS F.E o⟩
        | false => ⟨genS F.E o⟩
      | none => ⟨genS F.E o⟩
    | _ => ⟨genS F.E o⟩
  | _, _ => ⟨genS F.E o⟩
def sbLoad (F : FE) (o : Oper) (ty : TypeId) (a : Operand) : SB := match obOf F.E.base a, aggF F ty, szF F ty with
  | some a, some false, _ => ⟨sLoad1 a⟩
  | some a, some true, some n => ⟨sLoadN n a⟩
  | _, _, _ => ⟨genS F.E o⟩
def sbFieldA (F : FE) (o : Oper) (s : TypeId) (x : Operand) (f : Nat) : SB := match obOf F.E.base x, underF F s with
  | some a, some (.struct fields) => match nth f fields.toList with
    | some fd => match szF F fd.type with
      | some (_ + 1) => ⟨sFieldA fd.offset a⟩
      | _ => ⟨genS F.E o⟩
    | none => ⟨genS F.E o⟩
  | _, _ => ⟨genS F.E o⟩
def sbField (F : FE) (o : Oper) (s : TypeId) (x : Operand) (f : Nat) : SB := match obOf F.E.base x, underF F s with
  | some a, some (.struct fields) => match nth f fields.toList with
    | some fd => match aggF F fd.type, szF F fd.type with
      | some false, _ => ⟨sField1 fd.offset a⟩
      | some true, some n => ⟨sFieldN fd.offset n a⟩
      | _, _ => ⟨genS F.E o⟩
    | none => ⟨genS F.E o⟩
  | _, _ => ⟨genS F.E o⟩
def sbIndexA (F : FE) (o : Oper) (ty : TypeId) (x i : Operand) : SB := match obOf F.E.base x, obOf F.E.base i with
  | some a, some b => match underF F ty with
    | some (.slice e) => match szF F e with
      | some s => ⟨sIndexS s a b⟩
      | none => ⟨genS F.E o⟩
    | some (.array n e) => match szF F e with
      | some s => ⟨sIndexA n s a b⟩
      | none => ⟨genS F.E o⟩
    | _ => ⟨genS F.E o⟩
  | _, _ => ⟨genS F.E o⟩
def sbIndex (F : FE) (o : Oper) (ty : TypeId) (x i : Operand) : SB := match obOf F.E.base x, obOf F.E.base i with
  | some a, some b => match underF F ty with
    | some .string => ⟨sStrAt a b⟩
    | _ => ⟨genS F.E o⟩
  | _, _ => ⟨genS F.E o⟩
def sbIface (F : FE) (o : Oper) (ty : TypeId) (x : Operand) : SB := match obOf F.E.base x with
  | some a => match underF F ty with
    | some (.interface _) => ⟨genS F.E o⟩
    | some _ => ⟨sIface ty a⟩
    | none => ⟨genS F.E o⟩
  | none => ⟨genS F.E o⟩
def sbFunc (F : FE) (o : Oper) (fn : Fn) (first cap : Array Operand) : SB := match fn with
  | .func k => match obsOf F.E.base first.toList, obsOf F.E.base cap.toList with
    | some a, some b => ⟨sFunc k a b⟩
    | _, _ => ⟨genS F.E o⟩
  | _ => ⟨genS F.E o⟩
def sbLen (F : FE) (o : Oper) (ty : TypeId) (x : Operand) : SB := match obOf F.E.base x with
  | some a => match underF F ty with
    | some .string => ⟨sLenStr (genS F.E o) a⟩
    | some (.slice _) => ⟨sLenS (genS F.E o) a⟩
    | _ => ⟨genS F.E o⟩
  | none => ⟨genS F.E o⟩
def sbAssert (F : FE) (o : Oper) (x : Operand) (ty : TypeId) (ok : Bool) : SB := match obOf F.E.base x with
  | some a => match underF F ty with
    | some (.interface _) => ⟨genS F.E o⟩
    | some _ => ⟨sAssert ty ok (genS F.E o) a⟩
    | none => ⟨genS F.E o⟩
  | none => ⟨genS F.E o⟩
def sbBuild (F : FE) (o : Oper) (ty : TypeId) (parts : Array (Nat × Operand)) : SB := match zeroF F ty, underF F ty with
  | some z, some (.struct fields) => match placesA F.E.P fields.toList with
    | some pl => match partsF F.E.base (fun i => nth i pl) parts.toList with
      | some l => ⟨sBuild l z.cells⟩
      | none => ⟨genS F.E o⟩
    | none => ⟨genS F.E o⟩
  | _, _ => ⟨genS F.E o⟩
def sbCall (F : FE) (o : Oper) (c : Call) : SB := match c.callee with
  | .builtin .len => match c.argTypes.toList, c.args.toList with
    | ty :: _, [x] => sbLen F o ty x
    | _, _ => ⟨genS F.E o⟩
  | _ => ⟨genS F.E o⟩
def sbOf (F : FE) (o : Oper) : SB := match o.op with
  | .move x => match obOf F.E.base x with
    | some a => ⟨sMove a⟩
    | none => ⟨genS F.E o⟩
  | .pick c a b => match obOf F.E.base c, obOf F.E.base a, obOf F.E.base b with
    | some c, some a, some b => ⟨sPick c a b⟩
    | _, _, _ => ⟨genS F.E o⟩
  | .load ty a => sbLoad F o ty a
  | .nilCheck x => match obOf F.E.base x with
    | some a => ⟨sNil a⟩
    | none => ⟨genS F.E o⟩
  | .fieldAddr s x f => sbFieldA F o s x f
  | .field s x f => sbField F o s x f
  | .indexAddr ty x i => sbIndexA F o ty x i
  | .index ty x i => sbIndex F o ty x i
  | .binOp op ty x y _ => sbBin F o op ty x y
  | .unOp .not _ x => match obOf F.E.base x with
    | some a => ⟨sNot a⟩
    | none => ⟨genS F.E o⟩
  | .makeInterface ty x => sbIface F o ty x
  | .makeFunc fn first cap => sbFunc F o fn first cap
  | .build ty parts => sbBuild F o ty parts
  | .extract x i => match obOf F.E.base x with
    | some a => ⟨sExtract i a⟩
    | none => ⟨genS F.E o⟩
  | .typeAssert x _ ty ok => sbAssert F o x ty ok
  | .call c => sbCall F o c
  | _ => ⟨genS F.E o⟩

/-! ### the machine -/
structure FB where
  fn : FuncId
  n : Nat
  defers : List ADef
  deferred : Bool
  roundOf : Option Pos
  cs : List AFrame
abbrev KT := FB → T AV → List AItem → T Obj → Pos → Option Out
abbrev CT := List AItem → FB → T AV → T Obj → Pos → KT → Option Out
structure CB where
  run : CT
def asBoolC (x : AV) (f : Bool → CB) (g : CB) : CB :=
  AV.rec (motive_1 := fun _ => (Bool → CB) → CB → CB) (motive_2 := fun _ => Unit)
    (fun a0 f _ => f a0) (fun _ _ _ g => g) (fun _ _ g => g) (fun _ _ _ _ g => g) (fun _ g => g) (fun _ _ _ _ _ _ _ g => g) (fun _ g => g) (fun _ _ g => g) (fun _ g => g) (fun _ _ _ _ _ _ g => g) (fun _ _ g => g) (fun _ g => g) (fun _ _ _ _ g => g) (fun _ g => g) (fun _ _ _ g => g) (fun _ _ _ g => g) () (fun _ _ _ _ => ()) x f g

def mkSt (b : FB) (t : T AV) (todo : List AItem) (h : T Obj) (next : Pos) : St :=
  FB.rec (motive := fun _ => T AV → List AItem → T Obj → Pos → St) (fun fn n defers deferred roundOf cs t todo h next => ⟨⟨fn, n, t, todo, defers, .run, deferred, roundOf⟩, cs, h, next⟩) b t todo h next
/-- a state again: with a program that runs; else by plain steps, so many -/
def backK (E : Env) (K : KT) : Nat → St → Option Out
  | 0, _ => none
  | f + 1, s => match s with
    | ⟨⟨fn, n, t, todo, defers, mode, deferred, roundOf⟩, cs, h, next⟩ => match mode with
      | .run => K ⟨fn, n, defers, deferred, roundOf, cs⟩ t todo h next
      | mode => match stepA E ⟨⟨fn, n, t, todo, defers, mode, deferred, roundOf⟩, cs, h, next⟩ with
        | some (.on s') => backK E K f s'
        | _ => none
def backO (E : Env) (K : KT) (s : Option St) : Option Out := match s with
  | some s => backK E K 200 s
  | none => none
/-- a plain step -/
def slowK (E : Env) (K : KT) (s : St) : Option Out := match stepA E s with
  | some (.on s') => backK E K 200 s'
  | _ => none

def optO (r : Option AV) (f : AV → Option Out) : Option Out := Option.rec (motive := fun _ => (AV → Option Out) → Option Out) (fun _ => none) (fun v f => f v) r f
def ifO (z : Bool) (r : Option Out) : Option Out := Bool.rec (motive := fun _ => Option Out → Option Out) (fun _ => none) (fun r => r) z r
/-- a value is written -/
def putT (d : Option Pos) (v : AV) (t : T AV) : T AV := Option.rec (motive := fun _ => AV → T AV → T AV) (fun _ t => t) (fun p v t => setV v t p) d v t
def dstKey (d : Option Nat) : Option Pos := match d with
  | some d => some (nk d)
  | none => none
def smallK (s : SB) (p : Pos) (C : CB) (k : List AItem) (b : FB) (t : T AV) (h : T Obj) (next : Pos) (K : KT) : Option Out :=
  optO (s.run h t) (fun v => C.run k b (setV v t p) h next K)
def smallN (s : SB) (C : CB) (k : List AItem) (b : FB) (t : T AV) (h : T Obj) (next : Pos) (K : KT) : Option Out :=
  optO (s.run h t) (fun _ => C.run k b t h next K)
def smallCB (s : SB) (d : Option Nat) (C : CB) : CB := match d with
  | some d => ⟨smallK s (nk d) C⟩
  | none => ⟨smallN s C⟩
def undefK (p : Pos) (C : CB) (k : List AItem) (b : FB) (t : T AV) (h : T Obj) (next : Pos) (K : KT) : Option Out := C.run k b (setV undefA t p) h next K
def undefCB (d : Option Nat) (C : CB) : CB := match d with
  | some d => ⟨undefK (nk d) C⟩
  | none => C
def noneCB : CB := ⟨fun _ _ _ _ _ _ => none⟩
def endK (k : List AItem) (b : FB) (t : T AV) (h : T Obj) (next : Pos) (K : KT) : Option Out := K b t k h next
def endCB : CB := ⟨endK⟩
/-- which of the two -/
def selC (x : AV) (A B : CB) : CB := asBoolC x (fun z => Bool.rec (motive := fun _ => CB) B A z) noneCB
def selN (x : AV) (A B : CB) : CB := asBoolC x (fun z => Bool.rec (motive := fun _ => CB) B A z) B
def condK (x : OB) (A B : CB) (k : List AItem) (b : FB) (t : T AV) (h : T Obj) (next : Pos) (K : KT) : Option Out := (selC (x.run t) A B).run k b t h next K
/-- a guard: else the result is not defined -/
def guardT (p : Pos) (A B : CB) (k : List AItem) (b : FB) (t : T AV) (h : T Obj) (next : Pos) (K : KT) : Option Out := (selN (getV t p) A B).run k b t h next K
def guardF (p : Pos) (A B : CB) (k : List AItem) (b : FB) (t : T AV) (h : T Obj) (next : Pos) (K : KT) : Option Out :=
  (asBoolC (getV t p) (fun z => Bool.rec (motive := fun _ => CB) A B z) B).run k b t h next K
def guardCB (ops : List Oper) (o : Oper) (A B : CB) : CB := match o.guard with
  | none => A
  | some (j, want) => match nth j ops with
    | some p => match p.dst with
      | some d => match want with
        | true => ⟨guardT (nk d) A B⟩
        | false => ⟨guardF (nk d) A B⟩
      | none => B
    | none => B

/-! ### calls -/
def retFrame (b : FB) (t : T AV) (todo : List AItem) : AFrame := FB.rec (motive := fun _ => T AV → List AItem → AFrame) (fun fn n defers deferred roundOf _ t todo => ⟨fn, n, t, todo, defers, .run, deferred, roundOf⟩) b t todo
def hooked (f : FuncId) (E : Env) : Bool := match hookOf f E.hooks with
  | some _ => true
  | none => false
/-- a function that can be entered: its temporaries, its body -/
def fnInfo (fn : Func) : Option (Nat × Code) := match fn.body with
  | some c => match (fn.name == "runtime.NumGoroutine") with
    | true => none
    | false => some (fn.ntmps, c)
  | none => none
def argsR (l : List AV) (i : Nat) (t : T AV) : T AV := List.rec (motive := fun _ => Nat → T AV → T AV) (fun _ t => t) (fun x _ ih i t => ih (Nat.add i 1) (setV x t (nk i))) l i t
def callK (f : FuncId) (n : Nat) (c : Code) (it : AItem) (args : List OB) (k : List AItem) (b : FB) (t : T AV) (h : T Obj) (next : Pos) (K : KT) : Option Out :=
  FB.rec (motive := fun _ => FuncId → Nat → Code → AItem → List OB → List AItem → T AV → T Obj → Pos → KT → Option Out)
    (fun fn n' defers deferred roundOf cs f n c it args k t h next K => K ⟨f, n, [], false, none, ⟨fn, n', t, it :: k, defers, .run, deferred, roundOf⟩ :: cs⟩ (argsR (runObs args t) 0 .leaf) [.code c] h next) b f n c it args k t h next K
/-- what is called: a function of the program, what stands ahead of and behind the arguments -/
structure FnCall where
  f : FuncId
  n : Nat
  c : Code
  first : List AV
  cap : List AV
def asFunF (x : AV) (f : Fn → List AV → List AV → Option FnCall) (g : Option FnCall) : Option FnCall :=
  AV.rec (motive_1 := fun _ => (Fn → List AV → List AV → Option FnCall) → Option FnCall → Option FnCall) (motive_2 := fun _ => Unit)
    (fun _ _ g => g) (fun _ _ _ g => g) (fun _ _ g => g) (fun _ _ _ _ g => g) (fun _ g => g) (fun _ _ _ _ _ _ _ g => g) (fun _ g => g) (fun _ _ g => g) (fun _ g => g) (fun a0 a1 a2 _ _ f _ => f a0 a1 a2) (fun _ _ g => g) (fun _ g => g) (fun _ _ _ _ g => g) (fun _ g => g) (fun _ _ _ g => g) (fun _ _ _ g => g) () (fun _ _ _ _ => ()) x f g

def fnCallOf (F : FE) (x : AV) : Option FnCall :=
  asFunF x (fun fn first cap => match fn with
    | .func f => match getFn F.funcs (nk f) with
      | some fn => match fnInfo fn with
        | some (n, c) => match hooked f F.E with
          | false => some ⟨f, n, c, first, cap⟩
          | true => none
        | none => none
      | none => none
    | _ => none) none
def callDK (F : FE) (g : OB) (it : AItem) (args : List OB) (slow : CB) (k : List AItem) (b : FB) (t : T AV) (h : T Obj) (next : Pos) (K : KT) : Option Out :=
  match fnCallOf F (g.run t) with
  | some ⟨f, n, c, first, cap⟩ => match appV first (appV (runObs args t) cap) with
    | as => match Nat.ble (lenV as) n with
      | true => FB.rec (motive := fun _ => Option Out) (fun fn n' defers deferred roundOf cs => K ⟨f, n, [], false, none, ⟨fn, n', t, it :: k, defers, .run, deferred, roundOf⟩ :: cs⟩ (argsR as 0 .leaf) [.code c] h next) b
      | false => none
  | none => slow.run k b t h next K
def callCB (F : FE) (c : Call) (it : AItem) (slow : CB) : CB := match c.callee with
  | .value (.func f) => match getFn F.funcs (nk f), obsOf F.E.base c.args.toList, hooked f F.E with
    | some fn, some args, false => match fnInfo fn with
      | some (n, body) => match Nat.ble (len args) n with
        | true => ⟨callK f n body it args⟩
        | false => slow
      | none => slow
    | _, _, _ => slow
  | .value x => match obOf F.E.base x, obsOf F.E.base c.args.toList with
    | some g, some args => ⟨callDK F g it args slow⟩
    | _, _ => slow
  | _ => slow

/-! ### effects -/
def storeK (base n : Nat) (a x : OB) (d : Option Pos) (C : CB) (k : List AItem) (b : FB) (t : T AV) (h : T Obj) (next : Pos) (K : KT) : Option Out :=
  Option.rec (motive := fun _ => CB → List AItem → FB → T AV → Pos → KT → Option Out) (fun _ _ _ _ _ _ => none) (fun h C k b t next K => C.run k b (putT d undefA t) h next K)
    (asPtrH (a.run t) (fun g v c => match Nat.beq (lenV (cellsV (x.run t))) n with
      | true => setF base h g v c (cellsV (x.run t))
      | false => none) none) C k b t next K
def intKey : AV → AV → Option Bool := fun x y => match x, y with
    | .int k a, .int k' b => match Nat.beq (kCode k) (kCode k') with
      | true => some (eqI a b)
      | false => none
    | _, _ => none
def insertK (base : Nat) (kd : TypeDesc) (m key x : OB) (d : Option Pos) (C : CB) (k : List AItem) (b : FB) (t : T AV) (h : T Obj) (next : Pos) (K : KT) : Option Out :=
  Option.rec (motive := fun _ => CB → List AItem → FB → T AV → Pos → KT → Option Out) (fun _ _ _ _ _ _ => none) (fun h C k b t next K => C.run k b (putT d undefA t) h next K)
    (asMapH (m.run t) (fun g => match Nat.ble (valR g) base with
      | true => none
      | false => match getO h g with
        | some (.map es) => match putA (eqKey kd) (key.run t) (x.run t) es with
          | some es' => some (setO (.map es') h g)
          | none => none
        | _ => none) none) C k b t next K
/-- a new row: so many cells of a value that is known, or those of a value -/
def rowK (cs : T AV → List AV) (e : TypeId) (z : Option (Nat × Nat)) (p : Pos) (C : CB) (k : List AItem) (b : FB) (t : T AV) (h : T Obj) (next : Pos) (K : KT) : Option Out :=
  C.run k b (setV (mkAl next z) t p) (setO (.row (cs t) e) h next) next.succ K
structure AB where
  cs : T AV → List AV
  e : TypeId
  z : Option (Nat × Nat)
def abOf (F : FE) (o : Oper) : Option AB := match o.op with
  | .alloc e => match zeroF F e with
    | some z => some ⟨fun _ => z.cells, e, none⟩
    | none => none
  | .box e x => match obOf F.E.base x with
    | some a => some ⟨fun t => cellsV (a.run t), e, none⟩
    | none => none
  | _ => none
/-- the operation by the book -/
def genK (E : Env) (it : AItem) (o : Oper) (d : Option Pos) (C : CB) (k : List AItem) (b : FB) (t : T AV) (h : T Obj) (next : Pos) (K : KT) : Option Out :=
  match opA E h next t o with
  | some r => match r with
    | .val v h' next' => C.run k b (putT d v t) h' next' K
    | r => backO E K (applyA E (mkSt b t (it :: k) h next) r)
  | none => none
def effCB (F : FE) (it : AItem) (o : Oper) (C : CB) : CB := match o.op with
  | .assign x => match obOf F.E.base x with
    | some a => smallCB ⟨sMove a⟩ o.dst C
    | none => ⟨genK F.E it o (dstKey o.dst) C⟩
  | .store ty a x => match obOf F.E.base a, obOf F.E.base x, szF F ty with
    | some a, some x, some n => ⟨storeK F.E.base n a x (dstKey o.dst) C⟩
    | _, _, _ => ⟨genK F.E it o (dstKey o.dst) C⟩
  | .insert ty m key x => match obOf F.E.base m, obOf F.E.base key, obOf F.E.base x with
    | some m, some key, some x => match underF F ty with
      | some (.map kt _) => match underF F kt with
        | some kd => match plainKey kd with
          | true => ⟨insertK F.E.base kd m key x (dstKey o.dst) C⟩
          | false => ⟨genK F.E it o (dstKey o.dst) C⟩
        | none => ⟨genK F.E it o (dstKey o.dst) C⟩
      | _ => ⟨genK F.E it o (dstKey o.dst) C⟩
    | _, _, _ => ⟨genK F.E it o (dstKey o.dst) C⟩
  | .call c => callCB F c it ⟨genK F.E it o (dstKey o.dst) C⟩
  | _ => ⟨genK F.E it o (dstKey o.dst) C⟩
/-- a new row, or the book -/
def allocCB (F : FE) (it : AItem) (o : Oper) (C : CB) : CB := match abOf F o, o.dst with
  | some ⟨cs, e, z⟩, some d => ⟨rowK cs e z (nk d) C⟩
  | _, _ => ⟨genK F.E it o (dstKey o.dst) C⟩
def opCB (F : FE) (it : AItem) (o : Oper) (C : CB) : CB := match cls o with
  | .small => smallCB (sbOf F o) o.dst C
  | .alloc => allocCB F it o C
  | .eff => effCB F it o C
def regCB (F : FE) (ops : List Oper) : List Oper → CB
  | [] => endCB
  | o :: rest => guardCB ops o (opCB F (.reg ops (o :: rest)) o (regCB F ops rest)) (undefCB o.dst (regCB F ops rest))
def maxD : List Oper → Nat
  | [] => 0
  | o :: l => match o.dst with
    | some d => Nat.max (Nat.succ d) (maxD l)
    | none => maxD l
def nOf (b : FB) : Nat := FB.rec (motive := fun _ => Nat) (fun _ n _ _ _ _ => n) b
def checkedK (m : Nat) (C : CB) (k : List AItem) (b : FB) (t : T AV) (h : T Obj) (next : Pos) (K : KT) : Option Out := ifO (Nat.ble m (nOf b)) (C.run k b t h next K)
def regionCB (F : FE) (ops rest : List Oper) : CB := ⟨checkedK (maxD rest) (regCB F ops rest)⟩

/-! ### drawn regions -/
structure DB where
  run : List (Nat × Pos) → CT
/-- the small operations of a phase that have not been made -/
def freshOf : List Nat → List Nat → List Nat
  | [], _ => []
  | i :: l, done => match mem i done with
    | true => freshOf l done
    | false => i :: freshOf l (i :: done)
def doneOf : List Nat → List Nat → List Nat
  | [], done => done
  | i :: l, done => doneOf l (i :: done)
def dSmall (s : SB) (p : Option Pos) (C : DB) (als : List (Nat × Pos)) (k : List AItem) (b : FB) (t : T AV) (h : T Obj) (next : Pos) (K : KT) : Option Out :=
  optO (s.run h t) (fun v => C.run als k b (putT p v t) h next K)
def dUndef (p : Option Pos) (C : DB) (als : List (Nat × Pos)) (k : List AItem) (b : FB) (t : T AV) (h : T Obj) (next : Pos) (K : KT) : Option Out := C.run als k b (putT p undefA t) h next K
def dRow (i : Nat) (cs : T AV → List AV) (e : TypeId) (z : Option (Nat × Nat)) (p : Option Pos) (C : DB) (als : List (Nat × Pos)) (k : List AItem) (b : FB) (t : T AV) (h : T Obj) (next : Pos) (K : KT) : Option Out :=
  C.run ((i, next) :: als) k b (putT p (mkAl next z) t) (setO (.row (cs t) e) h next) next.succ K
def dAlloc (E : Env) (o : Oper) (i : Nat) (p : Option Pos) (C : DB) (als : List (Nat × Pos)) (k : List AItem) (b : FB) (t : T AV) (h : T Obj) (next : Pos) (K : KT) : Option Out :=
  match allocA E t o with
  | some (cs, e, z) => C.run ((i, next) :: als) k b (putT p (mkAl next z) t) (setO (.row cs e) h next) next.succ K
  | none => none
def asBoolD (x : AV) (A B : DB) : DB := match x with
  | .bool true => A
  | _ => B
def isTrue (x : AV) : Bool := asBoolB x (fun z => z) false
def isFalse (x : AV) : Bool := asBoolB x (fun z => notB z) false
def dGuard (want : Bool) (p : Pos) (A B : DB) (als : List (Nat × Pos)) (k : List AItem) (b : FB) (t : T AV) (h : T Obj) (next : Pos) (K : KT) : Option Out :=
  Bool.rec (motive := fun _ => DB → DB → List (Nat × Pos) → CT) (fun _ B als k b t h next K => B.run als k b t h next K) (fun A _ als k b t h next K => A.run als k b t h next K)
    (Bool.rec (motive := fun _ => AV → Bool) (fun x => isFalse x) (fun x => isTrue x) want (getV t p)) A B als k b t h next K
def guardDB (ops : List Oper) (o : Oper) (A B : DB) : DB := match o.guard with
  | none => A
  | some (j, want) => match nth j ops with
    | some p => match p.dst with
      | some d => ⟨dGuard want (nk d) A B⟩
      | none => B
    | none => B
def noneDB : DB := ⟨fun _ _ _ _ _ _ _ => none⟩
def runsDB (F : FE) (ops : List Oper) (C : DB) : List Nat → DB
  | [] => C
  | i :: l => match nth i ops with
    | some o => guardDB ops o
        (match cls o with
        | .alloc => match abOf F o with
          | some ⟨cs, e, z⟩ => ⟨dRow i cs e z (dstKey o.dst) (runsDB F ops C l)⟩
          | none => ⟨dAlloc F.E o i (dstKey o.dst) (runsDB F ops C l)⟩
        | .small => ⟨dSmall (sbOf F o) (dstKey o.dst) (runsDB F ops C l)⟩
        | .eff => noneDB) ⟨dUndef (dstKey o.dst) (runsDB F ops C l)⟩
    | none => noneDB
def eqP (p q : Pos) : Bool :=
  Pos.rec (motive := fun _ => Pos → Bool) (fun q => Pos.rec (motive := fun _ => Bool) true (fun _ _ => false) (fun _ _ => false) q)
    (fun _ ih q => Pos.rec (motive := fun _ => (Pos → Bool) → Bool) (fun _ => false) (fun q _ ih => ih q) (fun _ _ _ => false) q ih)
    (fun _ ih q => Pos.rec (motive := fun _ => (Pos → Bool) → Bool) (fun _ => false) (fun _ _ _ => false) (fun q _ ih => ih q) q ih) p q
/-- AV.beq, quick at the plain ones -/
def beqV (x y : AV) : Bool :=
  asIntB x (fun k a => asIntB y (fun k' b => andB (Nat.beq (kCode k) (kCode k')) (eqI a b)) false)
    (asPtrB x (fun g v c => asPtrB y (fun g' v' c' => andB (eqP g g') (andB (Nat.beq v v') (Nat.beq c c'))) false)
      (asBoolB x (fun a => asBoolB y (fun b => Bool.rec (motive := fun _ => Bool → Bool) (fun b => notB b) (fun b => b) a b) false)
        (asStrB x (fun a => asStrB y (fun b => Nat.beq a b) false) (AV.beq x y))))
def beqL (xs ys : List AV) : Bool :=
  List.rec (motive := fun _ => List AV → Bool) (fun ys => List.rec (motive := fun _ => Bool) true (fun _ _ _ => false) ys)
    (fun x _ ih ys => List.rec (motive := fun _ => AV → (List AV → Bool) → Bool) (fun _ _ => false) (fun y ys _ x ih => andB (beqV x y) (ih ys)) ys x ih) xs ys
def holdsF (p : Option Pos) (t : T AV) (v : AV) : Bool := Option.rec (motive := fun _ => T AV → AV → Bool) (fun _ _ => true) (fun p t v => beqV (getV t p) v) p t v
def optB (r : Option AV) (f : AV → Bool) : Bool := Option.rec (motive := fun _ => (AV → Bool) → Bool) (fun _ => false) (fun v f => f v) r f
def cSmall (s : SB) (p : Option Pos) (C : DB) (als : List (Nat × Pos)) (k : List AItem) (b : FB) (t : T AV) (h : T Obj) (next : Pos) (K : KT) : Option Out :=
  ifO (optB (s.run h t) (fun v => holdsF p t v)) (C.run als k b t h next K)
def cUndef (p : Option Pos) (C : DB) (als : List (Nat × Pos)) (k : List AItem) (b : FB) (t : T AV) (h : T Obj) (next : Pos) (K : KT) : Option Out :=
  ifO (holdsF p t undefA) (C.run als k b t h next K)
def cAlloc (E : Env) (o : Oper) (i : Nat) (p : Option Pos) (C : DB) (als : List (Nat × Pos)) (k : List AItem) (b : FB) (t : T AV) (h : T Obj) (next : Pos) (K : KT) : Option Out :=
  match allocA E t o, alOf i als with
  | some (cs, e, z), some g => match getO h g with
    | some (.row cs' e') => ifO (andB (beqL cs cs') (andB (Nat.beq e e') (holdsF p t (mkAl g z)))) (C.run als k b t h next K)
    | _ => none
  | _, _ => none
def cRow (i : Nat) (cs : T AV → List AV) (e : TypeId) (z : Option (Nat × Nat)) (p : Option Pos) (C : DB) (als : List (Nat × Pos)) (k : List AItem) (b : FB) (t : T AV) (h : T Obj) (next : Pos) (K : KT) : Option Out :=
  match alOf i als with
  | some g => match getO h g with
    | some (.row cs' e') => ifO (andB (beqL (cs t) cs') (andB (Nat.beq e e') (holdsF p t (mkAl g z)))) (C.run als k b t h next K)
    | _ => none
  | none => none
def checksDB (F : FE) (bs : List Nat) (done : List Nat) (ops : List Oper) (C : DB) : List Nat → DB
  | [] => C
  | i :: l => match nth i ops with
    | some o => match seesOk bs done ops i o with
      | true => guardDB ops o
        (match cls o with
        | .alloc => match abOf F o with
          | some ⟨cs, e, z⟩ => ⟨cRow i cs e z (dstKey o.dst) (checksDB F bs done ops C l)⟩
          | none => ⟨cAlloc F.E o i (dstKey o.dst) (checksDB F bs done ops C l)⟩
        | .small => ⟨cSmall (sbOf F o) (dstKey o.dst) (checksDB F bs done ops C l)⟩
        | .eff => noneDB) ⟨cUndef (dstKey o.dst) (checksDB F bs done ops C l)⟩
      | false => noneDB
    | none => noneDB
def dEnd (_ : List (Nat × Pos)) (k : List AItem) (b : FB) (t : T AV) (h : T Obj) (next : Pos) (K : KT) : Option Out := K b t k h next
/-- an effect, by the boxes of a plain region: behind it the next phase -/
def dEff (c : (AItem → CB)) (it : List (Nat × Pos) → AItem) (als : List (Nat × Pos)) (k : List AItem) (b : FB) (t : T AV) (h : T Obj) (next : Pos) (K : KT) : Option Out := (c (it als)).run k b t h next K
def dNext (C : DB) (als : List (Nat × Pos)) (k : List AItem) (b : FB) (t : T AV) (h : T Obj) (next : Pos) (K : KT) : Option Out := C.run als k b t h next K
def dEffCB (F : FE) (ops : List Oper) (bs : List Nat) (i : Nat) (rest done : List Nat) (o : Oper) (C : DB) (als : List (Nat × Pos)) (k : List AItem) (b : FB) (t : T AV) (h : T Obj) (next : Pos) (K : KT) : Option Out :=
  (effCB F (.drawIn ops bs i rest done als) o ⟨dNext C als⟩).run k b t h next K
def phaseDB (F : FE) (ops : List Oper) (bs : List Nat) : Option Nat → List Nat → List Nat → DB
  | last, [], done =>
    match smalls bs last [] ops 0 with
    | sm => runsDB F ops (checksDB F bs (doneOf (freshOf sm done) done) ops ⟨dEnd⟩ sm) (freshOf sm done)
  | last, i :: rest, done =>
    match smalls bs last (i :: rest) ops 0 with
    | sm => match doneOf (freshOf sm done) done with
      | done' => runsDB F ops (checksDB F bs done' ops (match nth i ops with
        | some o => match seesOk bs done' ops i o && isEff o with
          | true => guardDB ops o ⟨dEffCB F ops bs i rest done' o (phaseDB F ops bs (some i) rest done')⟩ ⟨dUndef (dstKey o.dst) (phaseDB F ops bs (some i) rest done')⟩
          | false => noneDB
        | none => noneDB) sm) (freshOf sm done)
def drawK (m : Nat) (D : DB) (als : List (Nat × Pos)) (k : List AItem) (b : FB) (t : T AV) (h : T Obj) (next : Pos) (K : KT) : Option Out := ifO (Nat.ble m (nOf b)) (D.run als k b t h next K)
def drawDB (F : FE) (ops : List Oper) (bs : List Nat) (last : Option Nat) (todo done : List Nat) : DB := ⟨drawK (maxD ops) (phaseDB F ops bs last todo done)⟩
def drawsK (D : DB) (k : List AItem) (b : FB) (t : T AV) (h : T Obj) (next : Pos) (K : KT) : Option Out := D.run [] k b t h next K

/-! ### returns -/
structure RB where
  run : T Obj → T AV → Option AV
def resSB (F : FE) : ResultVar → Option SB
  | .tmp k => some ⟨sMove ⟨obTmp (nk k)⟩⟩
  | .cell a ty => match aggF F ty, szF F ty with
    | some false, _ => some ⟨sLoad1 ⟨obTmp (nk a)⟩⟩
    | some true, some n => some ⟨sLoadN n ⟨obTmp (nk a)⟩⟩
    | _, _ => none
def resSBs (F : FE) : List ResultVar → Option (List SB)
  | [] => some []
  | r :: l => match resSB F r with
    | some s => match resSBs F l with
      | some k => some (s :: k)
      | none => none
    | none => none
def runSBs (l : List SB) (h : T Obj) (t : T AV) : Option (List AV) :=
  List.rec (motive := fun _ => T Obj → T AV → Option (List AV)) (fun _ _ => some []) (fun s _ ih h t => Option.rec (motive := fun _ => (T Obj → T AV → Option (List AV)) → T Obj → T AV → Option (List AV)) (fun _ _ _ => none)
    (fun v ih h t => Option.rec (motive := fun _ => AV → Option (List AV)) (fun _ => none) (fun l v => some (v :: l)) (ih h t) v) (s.run h t) ih h t) l h t
def manyRes (l : List SB) (h : T Obj) (t : T AV) : Option AV := match runSBs l h t with
  | some l => some (.tuple l)
  | none => none
def resOf (F : FE) (fn : Func) : Option SB := match resSBs F fn.results.toList with
  | some [s] => some s
  | some l => some ⟨manyRes l⟩
  | none => none
def finRegK (F : FE) (v : AV) (k : List AItem) (b : FB) (t : T AV) (h : T Obj) (next : Pos) (K : KT) (ops : List Oper) (o : Oper) (rest : List Oper) : Option Out :=
  Option.rec (motive := fun _ => Option Out) ((regionCB F ops rest).run k b t h next K) (fun d => ifO (Nat.ble (Nat.succ d) (nOf b)) ((regionCB F ops rest).run k b (setV v t (nk d)) h next K)) o.dst
def finDrawK (F : FE) (v : AV) (k : List AItem) (b : FB) (t : T AV) (h : T Obj) (next : Pos) (K : KT) (ops : List Oper) (bs : List Nat) (e : Nat) (todo done : List Nat) (als : List (Nat × Pos)) : Option Out :=
  match nth e ops with
  | some o => match o.dst with
    | some d => ifO (Nat.ble (Nat.succ d) (nOf b)) ((drawDB F ops bs (some e) todo done).run als k b (setV v t (nk d)) h next K)
    | none => (drawDB F ops bs (some e) todo done).run als k b t h next K
  | none => none
/-- the caller goes on -/
def finK (F : FE) (v : AV) (c : AFrame) (cs : List AFrame) (h : T Obj) (next : Pos) (K : KT) : Option Out :=
  AFrame.rec (motive := fun _ => Option Out) (fun fn n t todo defers mode deferred roundOf => match mode with
    | .run => match todo with
      | x :: k => match x with
        | .reg ops (o :: rest) => finRegK F v k ⟨fn, n, defers, deferred, roundOf, cs⟩ t h next K ops o rest
        | .drawIn ops bs e todo done als => finDrawK F v k ⟨fn, n, defers, deferred, roundOf, cs⟩ t h next K ops bs e todo done als
        | .inRange l => K ⟨fn, n, defers, deferred, roundOf, cs⟩ t (.endRange l :: k) h next
        | .beginRound => K ⟨fn, n, defers, deferred, roundOf, cs⟩ t k h next
        | _ => none
      | [] => none
    | _ => none) c
def retK (F : FE) (it : List AItem) (b : FB) (t : T AV) (h : T Obj) (next : Pos) (K : KT) : Option Out :=
  FB.rec (motive := fun _ => Option Out) (fun fn n defers deferred roundOf cs => match roundOf, defers, deferred, cs with
    | none, [], false, c :: cs => match getFn F.funcs (nk fn) with
      | some fnc => match resOf F fnc with
        | some s => optO (s.run h t) (fun v => finK F v c cs h next K)
        | none => none
      | none => none
    | roundOf, defers, deferred, cs => slowK F.E K ⟨⟨fn, n, t, it, defers, .run, deferred, roundOf⟩, cs, h, next⟩) b
def retC (F : FE) (k : List AItem) (b : FB) (t : T AV) (h : T Obj) (next : Pos) (K : KT) : Option Out := retK F (.code .ret :: k) b t h next K

/-! ### code -/
def seqK (a : CB) (x : AItem) (k : List AItem) (b : FB) (t : T AV) (h : T Obj) (next : Pos) (K : KT) : Option Out := a.run (x :: k) b t h next K
def exitL (id : Nat) (l : List AItem) : Option (List AItem) :=
  List.rec (motive := fun _ => Option (List AItem)) none (fun x k ih => AItem.rec (motive := fun _ => List AItem → Option (List AItem) → Option (List AItem)) (fun _ _ ih => ih)
    (fun i k ih => Bool.rec (motive := fun _ => List AItem → Option (List AItem) → Option (List AItem)) (fun _ ih => ih) (fun k _ => some k) (Nat.beq i id) k ih) (fun _ _ ih => ih) (fun _ _ ih => ih) (fun _ _ _ ih => ih)
    (fun _ _ _ _ _ _ _ ih => ih) (fun _ _ _ _ _ _ _ ih => ih) (fun _ _ ih => ih) (fun _ _ ih => ih) (fun _ ih => ih) x k ih) l
def exitK (E : Env) (id : Nat) (k : List AItem) (b : FB) (t : T AV) (h : T Obj) (next : Pos) (K : KT) : Option Out :=
  match exitL id k with
  | some k' => K b t k' h next
  | none => slowK E K (mkSt b t (.code (.exit id) :: k) h next)
def slowC (E : Env) (c : Code) (k : List AItem) (b : FB) (t : T AV) (h : T Obj) (next : Pos) (K : KT) : Option Out := slowK E K (mkSt b t (.code c :: k) h next)
def codeCB (F : FE) : Code → CB
  | .skip => endCB
  | .label _ => endCB
  | .seq a b => ⟨seqK (codeCB F a) (.code b)⟩
  | .cond c a b => match obOf F.E.base c with
    | some x => ⟨condK x (codeCB F a) (codeCB F b)⟩
    | none => noneCB
  | .block id body => ⟨seqK (codeCB F body) (.inBlock id)⟩
  | .loop body => ⟨seqK (codeCB F body) (.inLoop body)⟩
  | .scope body => ⟨seqK (codeCB F body) (.inScope body)⟩
  | .exit id => ⟨exitK F.E id⟩
  | .ret => ⟨retC F⟩
  | .region _ ops d => match d with
    | false => regionCB F ops.toList ops.toList
    | true => match planOf ops.toList with
      | some (bs, es) => ⟨drawsK (drawDB F ops.toList bs none es [])⟩
      | none => noneCB
  | c => ⟨slowC F.E c⟩
def itemK (F : FE) (x : AItem) (k : List AItem) (b : FB) (t : T AV) (h : T Obj) (next : Pos) (K : KT) : Option Out :=
  AItem.rec (motive := fun _ => FE → CT) (fun c F k b t h next K => (codeCB F c).run k b t h next K) (fun _ _ k b t h next K => K b t k h next)
    (fun body F k b t h next K => (codeCB F body).run (.inLoop body :: k) b t h next K) (fun _ _ k b t h next K => K b t k h next)
    (fun ops rest F k b t h next K => (regionCB F ops rest).run k b t h next K)
    (fun ops bs last todo done als F k b t h next K => (drawDB F ops bs last todo done).run als k b t h next K)
    (fun _ _ _ _ _ _ _ _ _ _ _ _ _ => none) (fun _ _ _ _ _ _ _ _ => none) (fun l F k b t h next K => slowK F.E K (mkSt b t (.endRange l :: k) h next)) (fun F k b t h next K => slowK F.E K (mkSt b t (.beginRound :: k) h next)) x F k b t h next K
def runF (F : FE) (N : Nat) : KT :=
  Nat.rec (motive := fun _ => FE → KT) (fun _ b t todo h next => some (.on (mkSt b t todo h next)))
    (fun _ K F b t todo h next => List.rec (motive := fun _ => FE → FB → T AV → T Obj → Pos → KT → Option Out) (fun F b t h next K => retK F [] b t h next K) (fun x k _ F b t h next K => itemK F x k b t h next K) todo F b t h next (K F)) N F

/-! ### a list as a tree -/
def evens {α : Type} : List α → List α
  | [] => []
  | [x] => [x]
  | x :: _ :: l => x :: evens l
def treeOf {α : Type} : Nat → List α → T α
  | 0, _ => .leaf
  | _ + 1, [] => .leaf
  | f + 1, x :: l => .node (treeOf f (evens l)) (some x) (treeOf f (evens (l.drop 1)))
end
end Go.Vm
end
section
namespace Go.Vm

/-! ### trees -/
theorem getO_eq : ∀ (t : T Obj) (p : Pos), getO t p = t.get p
  | .leaf, _ => rfl
  | .node _ _ _, .one => rfl
  | .node l _ _, .b0 q => getO_eq l q
  | .node _ _ r, .b1 q => getO_eq r q
theorem getX_eq : ∀ (t : T (AV × Nat)) (p : Pos), getX t p = t.get p
  | .leaf, _ => rfl
  | .node _ _ _, .one => rfl
  | .node l _ _, .b0 q => getX_eq l q
  | .node _ _ r, .b1 q => getX_eq r q
theorem getFn_eq : ∀ (t : T Func) (p : Pos), getFn t p = t.get p
  | .leaf, _ => rfl
  | .node _ _ _, .one => rfl
  | .node l _ _, .b0 q => getFn_eq l q
  | .node _ _ r, .b1 q => getFn_eq r q
theorem getTy_eq : ∀ (t : T TypeInfo) (p : Pos), getTy t p = t.get p
  | .leaf, _ => rfl
  | .node _ _ _, .one => rfl
  | .node l _ _, .b0 q => getTy_eq l q
  | .node _ _ r, .b1 q => getTy_eq r q
theorem getV_eq' : ∀ (t : T AV) (p : Pos), getV t p = (match t.get p with | some v => v | none => undefA)
  | .leaf, _ => rfl
  | .node _ o _, .one => by cases o <;> rfl
  | .node l _ _, .b0 q => getV_eq' l q
  | .node _ _ r, .b1 q => getV_eq' r q
theorem getV_eq (t : T AV) (k : Nat) : getV t (nk k) = tget t k := getV_eq' t (nk k)
theorem oneV_eq (x : AV) : ∀ p : Pos, oneV x p = T.single x p
  | .one => rfl
  | .b0 q => congrArg (fun y => T.node y none .leaf) (oneV_eq x q)
  | .b1 q => congrArg (fun y => T.node .leaf none y) (oneV_eq x q)
theorem setV_eq (x : AV) : ∀ (t : T AV) (p : Pos), setV x t p = t.set x p
  | .leaf, p => oneV_eq x p
  | .node _ _ _, .one => rfl
  | .node l o r, .b0 q => congrArg (fun y => T.node y o r) (setV_eq x l q)
  | .node l o r, .b1 q => congrArg (fun y => T.node l o y) (setV_eq x r q)
theorem oneO_eq (x : Obj) : ∀ p : Pos, oneO x p = T.single x p
  | .one => rfl
  | .b0 q => congrArg (fun y => T.node y none .leaf) (oneO_eq x q)
  | .b1 q => congrArg (fun y => T.node .leaf none y) (oneO_eq x q)
theorem setO_eq (x : Obj) : ∀ (t : T Obj) (p : Pos), setO x t p = t.set x p
  | .leaf, p => oneO_eq x p
  | .node _ _ _, .one => rfl
  | .node l o r, .b0 q => congrArg (fun y => T.node y o r) (setO_eq x l q)
  | .node l o r, .b1 q => congrArg (fun y => T.node l o y) (setO_eq x r q)

/-! ### lists -/
theorem nthV_eq : ∀ (n : Nat) (l : List AV), nthV n l = nth n l
  | 0, [] => rfl
  | 0, _ :: _ => rfl
  | _ + 1, [] => rfl
  | n + 1, _ :: l => nthV_eq n l
theorem dropV_eq : ∀ (n : Nat) (l : List AV), dropV n l = dropN n l
  | 0, _ => rfl
  | _ + 1, [] => rfl
  | n + 1, _ :: l => dropV_eq n l
theorem takeV_eq : ∀ (n : Nat) (l : List AV), takeV n l = takeN n l
  | 0, _ => rfl
  | _ + 1, [] => rfl
  | n + 1, x :: l => by
    show Option.rec (motive := fun _ => AV → Option (List AV)) (fun _ => none) (fun k x => some (x :: k)) (takeV n l) x = takeN (n + 1) (x :: l)
    rw [takeV_eq n l]
    simp only [takeN]
    cases takeN n l <;> rfl
theorem putH_eq : ∀ (xs l : List AV), putH xs l = putHead l xs
  | [], l => by cases l <;> rfl
  | _ :: _, [] => rfl
  | x :: xs, y :: l => by
    show Option.rec (motive := fun _ => AV → Option (List AV)) (fun _ => none) (fun k x => some (x :: k)) (putH xs l) x = putHead (y :: l) (x :: xs)
    rw [putH_eq xs l]
    simp only [putHead]
    cases putHead l xs <;> rfl
theorem putV_eq : ∀ (n : Nat) (l xs : List AV), putV n l xs = putAt n l xs
  | 0, l, xs => putH_eq xs l
  | _ + 1, [], _ => rfl
  | n + 1, y :: l, xs => by
    show Option.rec (motive := fun _ => AV → Option (List AV)) (fun _ => none) (fun k x => some (x :: k)) (putV n l xs) y = putAt (n + 1) (y :: l) xs
    rw [putV_eq n l xs]
    simp only [putAt]
    cases putAt n l xs <;> rfl
theorem lenV_eq : ∀ l : List AV, lenV l = len l
  | [] => rfl
  | _ :: l => congrArg (fun n => Nat.add n 1) (lenV_eq l)
theorem appV_eq : ∀ l m : List AV, appV l m = l ++ m
  | [], _ => rfl
  | x :: l, m => congrArg (fun n => x :: n) (appV_eq l m)
theorem cellsV_eq (x : AV) : cellsV x = x.cells := by cases x <;> rfl
theorem flatV_eq : ∀ l : List AV, flatV l = flatL l
  | [] => rfl
  | x :: l => by
    have ih := flatV_eq l
    cases x <;> first | exact ih | rfl

/-! ### views -/
theorem asInt_eq (x : AV) (f : IntKind → Int → Option AV) (g : Option AV) : asInt x f g = (match x with | .int k n => f k n | _ => g) := by cases x <;> rfl
theorem asStr_eq (x : AV) (f : Nat → Option AV) (g : Option AV) : asStr x f g = (match x with | .str n => f n | _ => g) := by cases x <;> rfl
theorem asBool_eq (x : AV) (f : Bool → Option AV) (g : Option AV) : asBool x f g = (match x with | .bool n => f n | _ => g) := by cases x <;> rfl
theorem asPtr_eq (x : AV) (f : Pos → Nat → Nat → Option AV) (g : Option AV) : asPtr x f g = (match x with | .ptr p v c => f p v c | _ => g) := by cases x <;> rfl
theorem asSlice_eq (x : AV) (f : Pos → Nat → Nat → Nat → Option Nat → Nat → Option AV) (g : Option AV) : asSlice x f g = (match x with | .slice p v c n cap es => f p v c n cap es | _ => g) := by cases x <;> rfl
theorem asAgg_eq (x : AV) (f : List AV → Option AV) (g : Option AV) : asAgg x f g = (match x with | .agg n => f n | _ => g) := by cases x <;> rfl
theorem asTuple_eq (x : AV) (f : List AV → Option AV) (g : Option AV) : asTuple x f g = (match x with | .tuple n => f n | _ => g) := by cases x <;> rfl
theorem asIface_eq (x : AV) (f : TypeId → AV → Option AV) (g : Option AV) : asIface x f g = (match x with | .iface t v => f t v | _ => g) := by cases x <;> rfl
theorem asIntB_eq (x : AV) (f : IntKind → Int → Bool) (g : Bool) : asIntB x f g = (match x with | .int k n => f k n | _ => g) := by cases x <;> rfl
theorem asStrB_eq (x : AV) (f : Nat → Bool) (g : Bool) : asStrB x f g = (match x with | .str n => f n | _ => g) := by cases x <;> rfl
theorem asBoolB_eq (x : AV) (f : Bool → Bool) (g : Bool) : asBoolB x f g = (match x with | .bool n => f n | _ => g) := by cases x <;> rfl
theorem asPtrB_eq (x : AV) (f : Pos → Nat → Nat → Bool) (g : Bool) : asPtrB x f g = (match x with | .ptr p v c => f p v c | _ => g) := by cases x <;> rfl
theorem asPtrH_eq (x : AV) (f : Pos → Nat → Nat → Option (T Obj)) (g : Option (T Obj)) : asPtrH x f g = (match x with | .ptr p v c => f p v c | _ => g) := by cases x <;> rfl
theorem asMapH_eq (x : AV) (f : Pos → Option (T Obj)) (g : Option (T Obj)) : asMapH x f g = (match x with | .map p => f p | _ => g) := by cases x <;> rfl
theorem asBoolC_eq (x : AV) (f : Bool → CB) (g : CB) : asBoolC x f g = (match x with | .bool n => f n | _ => g) := by cases x <;> rfl
theorem asFunF_eq (x : AV) (f : Fn → List AV → List AV → Option FnCall) (g : Option FnCall) : asFunF x f g = (match x with | .func a b c => f a b c | _ => g) := by cases x <;> rfl

/-! ### numbers -/
theorem kCode_beq (a b : IntKind) : Nat.beq (kCode a) (kCode b) = kindEq a b := by cases a <;> cases b <;> rfl
theorem notB_eq (z : Bool) : notB z = !z := by cases z <;> rfl
theorem andB_eq (z w : Bool) : andB z w = (z && w) := by cases z <;> rfl
theorem ltI_eq (a b : Int) : ltI a b = intLt a b := by cases a <;> cases b <;> rfl
theorem eqI_eq (a b : Int) : eqI a b = intEq a b := by cases a <;> cases b <;> rfl
theorem kCode_3 {k : IntKind} (h : Nat.beq (kCode k) 3 = true) : k = .i64 := by cases k <;> first | rfl | (simp [kCode] at h)
theorem addI_eq (k : IntKind) (a b : Int) : addI k a b = some (.int k (wrapA k (a + b))) := by
  cases a with
  | negSucc m => rfl
  | ofNat m => cases b with
    | negSucc n => rfl
    | ofNat n =>
      show Bool.rec (motive := fun _ => Nat → Nat → IntKind → Option AV) (fun n m k => some (.int k (wrapA k (Int.ofNat m + Int.ofNat n)))) (fun n m _ => some (.int .i64 (Int.ofNat (Nat.add m n))))
        (andB (Nat.beq (kCode k) 3) (Nat.ble (Nat.add m n) 9223372036854775807)) n m k = _
      rw [andB_eq]
      cases h1 : Nat.beq (kCode k) 3 with
      | false => rfl
      | true =>
        have hk := kCode_3 h1
        subst hk
        cases h2 : Nat.ble (Nat.add m n) 9223372036854775807 with
        | false => rfl
        | true =>
          have h3 : Nat.blt (m + n) 9223372036854775808 = true := by
            have := Nat.le_of_ble_eq_true h2
            exact Nat.ble_eq_true_of_le (Nat.succ_le_succ this)
          show some (AV.int .i64 (Int.ofNat (m + n))) = some (AV.int .i64 (wrapA .i64 (Int.ofNat m + Int.ofNat n)))
          have h4 : Int.ofNat m + Int.ofNat n = Int.ofNat (m + n) := rfl
          rw [h4]
          simp only [wrapA, small, h3]

theorem valR_eq : ∀ p : Pos, valR p = p.val
  | .one => rfl
  | .b0 p => by show 2 * valR p = 2 * p.val; rw [valR_eq p]
  | .b1 p => by show 2 * valR p + 1 = 2 * p.val + 1; rw [valR_eq p]
theorem eqP_eq : ∀ p q : Pos, eqP p q = p.beq q
  | .one, .one => rfl
  | .one, .b0 _ => rfl
  | .one, .b1 _ => rfl
  | .b0 p, .one => rfl
  | .b0 p, .b0 q => eqP_eq p q
  | .b0 p, .b1 q => rfl
  | .b1 p, .one => rfl
  | .b1 p, .b0 q => rfl
  | .b1 p, .b1 q => eqP_eq p q
theorem beqV_eq (x y : AV) : beqV x y = AV.beq x y := by
  unfold beqV
  simp only [asIntB_eq, asPtrB_eq, asBoolB_eq, asStrB_eq, kCode_beq, eqI_eq, eqP_eq, andB_eq]
  cases x <;> first
    | rfl
    | (cases y <;> simp only [AV.beq])
  rename_i a b
  cases a <;> cases b <;> rfl
theorem beqL_eq : ∀ xs ys : List AV, beqL xs ys = AV.beqs xs ys
  | [], [] => by simp only [AV.beqs]; rfl
  | [], _ :: _ => by simp only [AV.beqs]; rfl
  | _ :: _, [] => by simp only [AV.beqs]; rfl
  | x :: xs, y :: ys => by
    show andB (beqV x y) (beqL xs ys) = _
    rw [andB_eq, beqV_eq, beqL_eq xs ys]
    simp only [AV.beqs]
end Go.Vm
end
section
namespace Go.Vm

/-- What is looked up is what the program holds. -/
structure FOK (F : FE) : Prop where
  types : ∀ t i, F.types.get (nk t) = some i → F.E.P.info? t = some i
  funcs : ∀ f fn, F.funcs.get (nk f) = some fn → F.E.P.funcs[f]? = some fn

section
variable {F : FE} (hF : FOK F)
include hF
theorem infoF_ok {t : TypeId} {i : TypeInfo} (h : infoF F t = some i) : F.E.P.info? t = some i := by
  unfold infoF at h; rw [getTy_eq] at h; exact hF.types _ _ h
theorem underF_ok {t : TypeId} {d : TypeDesc} (h : underF F t = some d) : F.E.P.underlying t = some d := by
  unfold underF at h
  split at h
  · rename_i i hi
    have h1 := infoF_ok hF hi
    unfold Program.underlying
    rw [h1]
    split at h
    · rename_i n u hd
      split at h
      · rename_i j hj
        have h2 := infoF_ok hF hj
        cases i with
        | mk desc str size bytes hasPointers hash z methods => 
          simp only at hd
          subst hd
          simp only [h2, Option.map_some]
          exact h
      · cases h
    · rename_i d' hne
      cases i with
      | mk desc str size bytes hasPointers hash z methods =>
        simp only at hne h ⊢
        cases h
        cases d <;> first | rfl | exact absurd rfl (hne _ _)
  · cases h
theorem szF_ok {t : TypeId} {n : Nat} (h : szF F t = some n) : szA F.E.P t = some n := by
  unfold szF at h
  split at h
  · rename_i i hi
    unfold szA; rw [infoF_ok hF hi]; exact h
  · cases h
theorem zeroF_ok {t : TypeId} {n : AV} (h : zeroF F t = some n) : zeroA F.E.P t = some n := by
  unfold zeroF at h
  split at h
  · rename_i i hi
    unfold zeroA; rw [infoF_ok hF hi]; exact h
  · cases h
theorem aggF_ok {t : TypeId} {n : Bool} (h : aggF F t = some n) : isAggA F.E.P t = some n := by
  unfold aggF at h
  unfold isAggA
  split at h
  · rename_i hi; rw [underF_ok hF hi]; exact h
  · rename_i hi; rw [underF_ok hF hi]; exact h
  · rename_i d h1 h2 hi
    rw [underF_ok hF hi]
    cases h
    split
    · rename_i e; cases e; exact absurd rfl (h1 _)
    · rename_i e; cases e; exact absurd rfl (h2 _ _)
    · rfl
    · rename_i e; cases e
  · cases h
end

/-! ### memory -/
theorem rowX_succ (t : T (AV × Nat)) (v n c : Nat) : rowX t v (n + 1) c = (match getX t (nk c) with
    | some (x, o) => match Nat.ble o v with
      | true => match rowX t v n (Nat.add c 1) with
        | some l => some (x :: l)
        | none => none
      | false => none
    | none => none) := by
  show Option.rec (motive := fun _ => (Nat → Nat → T (AV × Nat) → Option (List AV)) → Nat → Nat → T (AV × Nat) → Option (List AV)) (fun _ _ _ _ => none)
      (fun x ih c v t => Prod.rec (motive := fun _ => (Nat → Nat → T (AV × Nat) → Option (List AV)) → Nat → Nat → T (AV × Nat) → Option (List AV))
        (fun x o ih c v t => Bool.rec (motive := fun _ => AV → (Nat → Nat → T (AV × Nat) → Option (List AV)) → Nat → Nat → T (AV × Nat) → Option (List AV)) (fun _ _ _ _ _ => none)
          (fun x ih c v t => Option.rec (motive := fun _ => AV → Option (List AV)) (fun _ => none) (fun l x => some (x :: l)) (ih (Nat.add c 1) v t) x) (Nat.ble o v) x ih c v t) x ih c v t)
      (getX t (nk c)) (fun c v t => rowX t v n c) c v t = _
  cases getX t (nk c) with
  | none => rfl
  | some x =>
    obtain ⟨x, o⟩ := x
    simp only
    cases Nat.ble o v with
    | false => rfl
    | true =>
      simp only
      cases rowX t v n (Nat.add c 1) <;> rfl
theorem rowX_eq (t : T (AV × Nat)) (v : Nat) : ∀ n c : Nat, rowX t v n c = getRow t v n c
  | 0, _ => rfl
  | n + 1, c => by
    rw [rowX_succ, rowX_eq t v n (Nat.add c 1)]
    simp only [getRow, T.at, getX_eq]
    rfl
theorem cellsR_eq (h : T Obj) (g : Pos) (v c n : Nat) : cellsR h g v c n = getCells h g v c n := by
  unfold cellsR getCells
  rw [getO_eq]
  cases h.get g with
  | none => rfl
  | some o => cases o with
    | row cs e =>
      cases v with
      | zero => show takeV n (dropV c cs) = _; rw [takeV_eq, dropV_eq]
      | succ v => rfl
    | arr t latest ends frz e =>
      show arrCells t latest ends v c n = _
      unfold arrCells
      simp only [rowX_eq]
      rfl
    | map es => rfl
    | loop l => rfl
    | deferred ds => rfl
    | iter m seen since => rfl
theorem take1 : ∀ l : List AV, takeN 1 l = (match l with | x :: _ => some [x] | [] => none)
  | [] => rfl
  | _ :: _ => rfl
theorem nth_drop : ∀ (n : Nat) (l : List AV), nth n l = (match dropN n l with | x :: _ => some x | [] => none)
  | 0, [] => rfl
  | 0, _ :: _ => rfl
  | _ + 1, [] => rfl
  | n + 1, _ :: l => nth_drop n l
theorem cellR_eq (h : T Obj) (g : Pos) (v c : Nat) : cellR h g v c = (match getCells h g v c 1 with | some (x :: _) => some x | _ => none) := by
  unfold cellR getCells
  rw [getO_eq]
  cases h.get g with
  | none => rfl
  | some o => cases o with
    | row cs e =>
      cases v with
      | zero =>
        show nthV c cs = _
        rw [nthV_eq, nth_drop]
        simp only [take1]
        cases dropN c cs <;> rfl
      | succ v => rfl
    | arr t latest ends frz e =>
      show arrCell t latest ends v c = _
      unfold arrCell
      simp only
      cases endOf latest v ends with
      | none => rfl
      | some e =>
        simp only
        cases Nat.ble (Nat.add c 1) e with
        | false => rfl
        | true =>
          simp only [getRow, T.at]
          rw [getX_eq]
          cases t.get (nk c) with
          | none => rfl
          | some x =>
            obtain ⟨x, o⟩ := x
            simp only
            cases Nat.ble o v <;> rfl
    | map es => rfl
    | loop l => rfl
    | deferred ds => rfl
    | iter m seen since => rfl
theorem setF_eq (base : Nat) (h : T Obj) (g : Pos) (v c : Nat) (xs : List AV) : setF base h g v c xs = setCells base h g v c xs := by
  unfold setF setCells isOld
  simp only [valR_eq, getO_eq, flatV_eq, putV_eq, setO_eq]
  cases Nat.ble g.val base with
  | true => rfl
  | false =>
    simp only
    cases h.get g with
    | none => rfl
    | some o =>
      simp only
      cases flatL xs with
      | false => rfl
      | true => cases o with
        | row cs e =>
          cases v with
          | zero =>
            simp only [setObj]
            cases putAt c cs xs <;> rfl
          | succ v => rfl
        | arr t latest ends frz e => rfl
        | map es => rfl
        | loop l => rfl
        | deferred ds => rfl
        | iter m seen since => rfl

/-! ### operands -/
theorem obOf_ok {base : Nat} {x : Operand} {a : OB} (h : obOf base x = some a) (t : T AV) : evalA base t x = some (a.run t) := by
  cases x with
  | tmp k =>
    simp only [obOf, Option.some.injEq] at h
    subst h
    simp only [evalA, obTmp, getV_eq]
  | const c =>
    simp only [obOf] at h
    split at h
    · rename_i v hv; cases h; exact hv
    · cases h
  | global g =>
    simp only [obOf] at h
    split at h
    · rename_i v hv; cases h; exact hv
    · cases h
  | func f =>
    simp only [obOf] at h
    split at h
    · rename_i v hv; cases h; exact hv
    · cases h
theorem obsOf_ok {base : Nat} : ∀ {l : List Operand} {as : List OB}, obsOf base l = some as → ∀ t : T AV, evalsA base t l = some (runObs as t)
  | [], as, h, t => by simp only [obsOf, Option.some.injEq] at h; subst h; rfl
  | x :: l, as, h, t => by
    simp only [obsOf] at h
    split at h
    · rename_i a ha
      split at h
      · rename_i k hk
        cases h
        simp only [evalsA, obOf_ok ha t, obsOf_ok hk t]
        rfl
      · cases h
    · cases h
theorem runObs_len : ∀ (l : List OB) (t : T AV), len (runObs l t) = len l
  | [], _ => rfl
  | _ :: l, t => congrArg (fun n => Nat.add n 1) (runObs_len l t)
end Go.Vm
end
