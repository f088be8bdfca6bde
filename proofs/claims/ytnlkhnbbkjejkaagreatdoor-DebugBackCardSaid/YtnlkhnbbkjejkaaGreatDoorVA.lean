/- DebugBack returns true for every list, index and number, and changes nothing that lay before. No conditions. Part VA. -/
import GoSem.Step
import Derived.Laws.Sem
import Derived.Laws.World
import Derived.Laws.Rows
import Derived.Laws.Append
import GoSem.Machine.Frame
import Derived.MapKept
set_option linter.unusedSimpArgs false
set_option linter.unusedVariables false
section
namespace Go.Vm

/-! ### keys and trees -/
inductive Pos where
  | one
  | b0 (p : Pos)
  | b1 (p : Pos)
  deriving DecidableEq, Inhabited

def Pos.beq : Pos → Pos → Bool
  | .one, .one => true
  | .b0 p, .b0 q => p.beq q
  | .b1 p, .b1 q => p.beq q
  | _, _ => false

theorem Pos.eq_of_beq : ∀ {p q : Pos}, p.beq q = true → p = q
  | .one, .one, _ => rfl
  | .b0 _, .b0 _, h => congrArg Pos.b0 (Pos.eq_of_beq h)
  | .b1 _, .b1 _, h => congrArg Pos.b1 (Pos.eq_of_beq h)
  | .one, .b0 _, h => by simp [Pos.beq] at h
  | .one, .b1 _, h => by simp [Pos.beq] at h
  | .b0 _, .one, h => by simp [Pos.beq] at h
  | .b0 _, .b1 _, h => by simp [Pos.beq] at h
  | .b1 _, .one, h => by simp [Pos.beq] at h
  | .b1 _, .b0 _, h => by simp [Pos.beq] at h

theorem Pos.beq_self : ∀ p : Pos, p.beq p = true
  | .one => rfl
  | .b0 p => Pos.beq_self p
  | .b1 p => Pos.beq_self p

theorem Pos.beq_iff {p q : Pos} : p.beq q = true ↔ p = q := ⟨Pos.eq_of_beq, fun h => h ▸ Pos.beq_self p⟩
theorem Pos.beq_false_iff {p q : Pos} : p.beq q = false ↔ p ≠ q := by
  constructor
  · intro h e; rw [Pos.beq_iff.2 e] at h; cases h
  · intro h; cases hb : p.beq q with
    | false => rfl
    | true => exact absurd (Pos.eq_of_beq hb) h

def Pos.val : Pos → Nat
  | .one => 1
  | .b0 p => 2 * p.val
  | .b1 p => 2 * p.val + 1
theorem Pos.val_pos : ∀ p : Pos, 0 < p.val
  | .one => Nat.zero_lt_one
  | .b0 p => by have := Pos.val_pos p; simp only [Pos.val]; omega
  | .b1 p => by simp only [Pos.val]; omega
def Pos.succ : Pos → Pos
  | .one => .b0 .one
  | .b0 p => .b1 p
  | .b1 p => .b0 p.succ
theorem Pos.val_succ : ∀ p : Pos, p.succ.val = p.val + 1
  | .one => rfl
  | .b0 p => rfl
  | .b1 p => by simp only [Pos.succ, Pos.val, Pos.val_succ p]; omega
theorem Pos.val_inj : ∀ {p q : Pos}, p.val = q.val → p = q
  | .one, .one, _ => rfl
  | .one, .b0 q, h => by have := Pos.val_pos q; simp only [Pos.val] at h; omega
  | .one, .b1 q, h => by have := Pos.val_pos q; simp only [Pos.val] at h; omega
  | .b0 p, .one, h => by have := Pos.val_pos p; simp only [Pos.val] at h; omega
  | .b1 p, .one, h => by have := Pos.val_pos p; simp only [Pos.val] at h; omega
  | .b0 p, .b0 q, h => congrArg Pos.b0 (Pos.val_inj (by simp only [Pos.val] at h; omega))
  | .b1 p, .b1 q, h => congrArg Pos.b1 (Pos.val_inj (by simp only [Pos.val] at h; omega))
  | .b0 p, .b1 q, h => by simp only [Pos.val] at h; omega
  | .b1 p, .b0 q, h => by simp only [Pos.val] at h; omega

/-- The key of a number: by so many halvings. -/
def ofNat : Nat → Nat → Pos
  | 0, _ => .one
  | f + 1, n => match Nat.ble n 1 with
    | true => .one
    | false => match Nat.beq (Nat.mod n 2) 0 with
      | true => .b0 (ofNat f (Nat.div n 2))
      | false => .b1 (ofNat f (Nat.div n 2))
theorem ofNat_val : ∀ (f n : Nat), 0 < n → n < 2 ^ f → (ofNat f n).val = n
  | 0, n, h0, h => by simp at h; omega
  | f + 1, n, h0, h => by
    unfold ofNat
    cases h1 : Nat.ble n 1 with
    | true =>
      have := Nat.le_of_ble_eq_true h1
      have : n = 1 := by omega
      subst this; rfl
    | false =>
      have hn : ¬ n ≤ 1 := fun hle => by rw [Nat.ble_eq_true_of_le hle] at h1; cases h1
      have hd : n / 2 < 2 ^ f := by rw [Nat.pow_succ] at h; omega
      have ih := ofNat_val f (n / 2) (by omega) hd
      cases h2 : Nat.beq (Nat.mod n 2) 0 with
      | true =>
        have h3 : n % 2 = 0 := Nat.eq_of_beq_eq_true h2
        show 2 * (ofNat f (n / 2)).val = n
        rw [ih]; omega
      | false =>
        have h3 : n % 2 ≠ 0 := Nat.ne_of_beq_eq_false h2
        show 2 * (ofNat f (n / 2)).val + 1 = n
        rw [ih]; omega
def nk (n : Nat) : Pos := ofNat (Nat.log2 (n + 1) + 1) (n + 1)
theorem nk_val (n : Nat) : (nk n).val = n + 1 := ofNat_val _ _ (by omega) (Nat.lt_log2_self)
theorem nk_inj {n m : Nat} (h : nk n = nk m) : n = m := by
  have := congrArg Pos.val h
  rw [nk_val, nk_val] at this; omega

inductive T (α : Type) where
  | leaf
  | node (l : T α) (o : Option α) (r : T α)
  deriving Inhabited

def T.get {α : Type} : T α → Pos → Option α
  | .leaf, _ => none
  | .node l o r, p => match p with
    | .one => o
    | .b0 q => l.get q
    | .b1 q => r.get q
def T.single {α : Type} (x : α) : Pos → T α
  | .one => .node .leaf (some x) .leaf
  | .b0 q => .node (T.single x q) none .leaf
  | .b1 q => .node .leaf none (T.single x q)
def T.set {α : Type} (x : α) : T α → Pos → T α
  | .leaf, p => T.single x p
  | .node l o r, p => match p with
    | .one => .node l (some x) r
    | .b0 q => .node (l.set x q) o r
    | .b1 q => .node l o (r.set x q)

theorem T.get_single_same {α : Type} (x : α) : ∀ p : Pos, (T.single x p).get p = some x
  | .one => rfl
  | .b0 q => T.get_single_same x q
  | .b1 q => T.get_single_same x q
theorem T.get_single_other {α : Type} (x : α) : ∀ p q : Pos, p ≠ q → (T.single x p).get q = none
  | .one, .one, h => absurd rfl h
  | .one, .b0 _, _ => rfl
  | .one, .b1 _, _ => rfl
  | .b0 _, .one, _ => rfl
  | .b0 p, .b0 q, h => T.get_single_other x p q (fun e => h (congrArg Pos.b0 e))
  | .b0 _, .b1 _, _ => rfl
  | .b1 _, .one, _ => rfl
  | .b1 _, .b0 _, _ => rfl
  | .b1 p, .b1 q, h => T.get_single_other x p q (fun e => h (congrArg Pos.b1 e))
theorem T.get_set_same {α : Type} (x : α) : ∀ (t : T α) (p : Pos), (t.set x p).get p = some x
  | .leaf, p => T.get_single_same x p
  | .node _ _ _, .one => rfl
  | .node l _ _, .b0 q => T.get_set_same x l q
  | .node _ _ r, .b1 q => T.get_set_same x r q
theorem T.get_set_other {α : Type} (x : α) : ∀ (t : T α) (p q : Pos), p ≠ q → (t.set x p).get q = t.get q
  | .leaf, p, q, h => T.get_single_other x p q h
  | .node _ _ _, .one, .one, h => absurd rfl h
  | .node _ _ _, .one, .b0 _, _ => rfl
  | .node _ _ _, .one, .b1 _, _ => rfl
  | .node _ _ _, .b0 _, .one, _ => rfl
  | .node l _ _, .b0 p, .b0 q, h => T.get_set_other x l p q (fun e => h (congrArg Pos.b0 e))
  | .node _ _ _, .b0 _, .b1 _, _ => rfl
  | .node _ _ _, .b1 _, .one, _ => rfl
  | .node _ _ _, .b1 _, .b0 _, _ => rfl
  | .node _ _ r, .b1 p, .b1 q, h => T.get_set_other x r p q (fun e => h (congrArg Pos.b1 e))
theorem T.get_set {α : Type} (x : α) (t : T α) (p q : Pos) : (t.set x p).get q = if p = q then some x else t.get q := by
  by_cases h : p = q
  · subst h; rw [if_pos rfl]; exact T.get_set_same x t p
  · rw [if_neg h]; exact T.get_set_other x t p q h
/-- A tree keyed by numbers. -/
def T.at {α : Type} (t : T α) (n : Nat) : Option α := t.get (nk n)
def T.put {α : Type} (t : T α) (n : Nat) (x : α) : T α := t.set x (nk n)
theorem T.at_put {α : Type} (t : T α) (n m : Nat) (x : α) : (t.put n x).at m = if n = m then some x else t.at m := by
  unfold T.at T.put
  rw [T.get_set]
  by_cases h : n = m
  · subst h; simp
  · rw [if_neg h, if_neg (fun e => h (nk_inj e))]
theorem T.at_leaf {α : Type} (n : Nat) : (T.leaf : T α).at n = none := rfl

end Go.Vm
end
section
namespace Go.Vm

/-! ### values -/
inductive AV where
  | bool (b : Bool)
  | int (k : IntKind) (n : Int)
  | str (n : Nat)
  | ptr (g : Pos) (v c : Nat)
  | nilptr
  | slice (g : Pos) (v c len : Nat) (cap : Option Nat) (es : Nat)
  | nilslice
  | map (g : Pos)
  | nilmap
  | func (fn : Fn) (first captured : List AV)
  | yield (g : Pos)
  | nilfunc
  | iface (t : TypeId) (v : AV)
  | niliface
  | agg (cs : List AV)
  | tuple (vs : List AV)
  deriving Inhabited

def undefA : AV := .tuple []
def AV.cells : AV → List AV
  | .agg cs => cs
  | v => [v]

/-! ### strings: a one in front, to the base 256 -/
def encL : List Nat → Nat → Nat
  | [], n => n
  | b :: l, n => encL l (n * 256 + b)
def encS (s : ByteArray) : Nat := encL (s.data.toList.map (·.toNat)) 1
def slen (n : Nat) : Nat := Nat.div (Nat.log2 n) 8
def spow (k : Nat) : Nat := Nat.pow 2 (Nat.mul 8 k)
def scat (a b : Nat) : Nat := Nat.add (Nat.mul a (spow (slen b))) (Nat.sub b (spow (slen b)))
def sget (n i : Nat) : Nat := Nat.mod (Nat.div n (spow (Nat.sub (Nat.sub (slen n) 1) i))) 256
def sext (n l h : Nat) : Nat := Nat.add (Nat.mod (Nat.div n (spow (Nat.sub (slen n) h))) (spow (Nat.sub h l))) (spow (Nat.sub h l))
def sdecF : Nat → Nat → List Nat → List Nat
  | 0, _, acc => acc
  | f + 1, n, acc => sdecF f (Nat.div n 256) (Nat.mod n 256 :: acc)
def sdec (n : Nat) : List Nat := sdecF (slen n) n []
def sless : List Nat → List Nat → Bool
  | _, [] => false
  | [], _ :: _ => true
  | a :: x, b :: y => match Nat.blt a b with
    | true => true
    | false => match Nat.beq a b with
      | true => sless x y
      | false => false

/-! ### a value of the model without addresses -/
mutual
def absV : Nat → Value → Option AV
  | 0, _ => none
  | f + 1, v => match v with
    | .bool b => some (.bool b)
    | .int k n => some (.int k n)
    | .string s => some (.str (encS s))
    | .pointer none => some .nilptr
    | .slice none 0 0 => some .nilslice
    | .map none => some .nilmap
    | .func (.func g) a b => match absVs f a.toList, absVs f b.toList with
      | some a, some b => some (.func (.func g) a b)
      | _, _ => none
    | .nilFunc => some .nilfunc
    | .iface t v => match absV f v with
      | some v => some (.iface t v)
      | none => none
    | .nilIface => some .niliface
    | .agg cs => match absVs f cs.toList with
      | some l => some (.agg l)
      | none => none
    | .tuple cs => match absVs f cs.toList with
      | some l => some (.tuple l)
      | none => none
    | _ => none
def absVs : Nat → List Value → Option (List AV)
  | 0, _ => none
  | _ + 1, [] => some []
  | f + 1, v :: l => match absV f v with
    | some a => match absVs f l with
      | some k => some (a :: k)
      | none => none
    | none => none
end

/-! ### what lies in memory -/
inductive LS where
  | ready | busy | done | exhausted
  deriving DecidableEq, Inhabited

structure ALoop where
  state : LS
  pending : Option Code
  fn : FuncId
  n : Nat
  tmps : T AV
  params : List Nat
  assign : Code
  body : Code
  defers : Pos
  deriving Inhabited

inductive ADef where
  | call (f : AV) (args : List AV)
  | collected (block : Pos)
  deriving Inhabited

inductive Obj where
  | row (cs : List AV) (elem : TypeId)
  | arr (t : T (AV × Nat)) (latest : Nat) (ends : List Nat) (frz : Nat) (elem : TypeId)
  | map (es : List (AV × AV))
  | loop (l : ALoop)
  | deferred (ds : Option (List ADef))
  | iter (m : Pos) (seen : List Nat) (since : Nat)
  deriving Inhabited

def takeN {α : Type} : Nat → List α → Option (List α)
  | 0, _ => some []
  | _ + 1, [] => none
  | n + 1, x :: l => match takeN n l with
    | some k => some (x :: k)
    | none => none
def dropN {α : Type} : Nat → List α → List α
  | 0, l => l
  | _ + 1, [] => []
  | n + 1, _ :: l => dropN n l
/-- xs in the place of the first ones of a list -/
def putHead : List AV → List AV → Option (List AV)
  | l, [] => some l
  | [], _ :: _ => none
  | _ :: l, x :: xs => match putHead l xs with
    | some k => some (x :: k)
    | none => none
def putAt : Nat → List AV → List AV → Option (List AV)
  | 0, l, xs => putHead l xs
  | _ + 1, [], _ => none
  | n + 1, y :: l, xs => match putAt n l xs with
    | some k => some (y :: k)
    | none => none
def nth {α : Type} : Nat → List α → Option α
  | _, [] => none
  | 0, x :: _ => some x
  | n + 1, _ :: l => nth n l
def len {α : Type} : List α → Nat
  | [] => 0
  | _ :: l => Nat.add (len l) 1

/-- where version v ends -/
def endOf (latest v : Nat) (ends : List Nat) : Option Nat :=
  match Nat.ble v latest with
  | true => nth (Nat.sub latest v) ends
  | false => none
def getRow (t : T (AV × Nat)) (v : Nat) : Nat → Nat → Option (List AV)
  | 0, _ => some []
  | n + 1, c => match t.at c with
    | some (x, o) => match Nat.ble o v with
      | true => match getRow t v n (Nat.add c 1) with
        | some l => some (x :: l)
        | none => none
      | false => none
    | none => none
def setRow (v : Nat) : List AV → Nat → T (AV × Nat) → T (AV × Nat)
  | [], _, t => t
  | x :: l, c, t => setRow v l (Nat.add c 1) (t.put c (x, v))

def getCells (h : T Obj) (g : Pos) (v c n : Nat) : Option (List AV) :=
  match h.get g with
  | some (.row cs _) => match v with
    | 0 => takeN n (dropN c cs)
    | _ + 1 => none
  | some (.arr t latest ends _ _) => match endOf latest v ends with
    | some e => match Nat.ble (Nat.add c n) e with
      | true => getRow t v n c
      | false => none
    | none => none
  | _ => none
def setObj (o : Obj) (v c : Nat) (xs : List AV) : Option Obj :=
  match o with
  | .row cs e => match v with
    | 0 => match putAt c cs xs with
      | some l => some (.row l e)
      | none => none
    | _ + 1 => none
  | .arr t latest ends frz elem => match Nat.beq v latest with
    | true => match endOf latest v ends with
      | some e => match Nat.ble (Nat.add c (len xs)) e with
        | true => match Nat.ble frz c with
          | true => some (.arr (setRow v xs c t) latest ends frz elem)
          | false => none
        | false => none
      | none => none
    | false => none
  | _ => none
def isOld (base : Nat) (g : Pos) : Bool := Nat.ble g.val base
/-- values of one cell each -/
def flatL : List AV → Bool
  | [] => true
  | x :: l => match x with
    | .agg _ => false
    | .tuple _ => false
    | _ => flatL l
def setCells (base : Nat) (h : T Obj) (g : Pos) (v c : Nat) (xs : List AV) : Option (T Obj) :=
  match isOld base g with
  | true => none
  | false => match h.get g with
    | some o => match flatL xs with
      | true => match setObj o v c xs with
        | some o' => some (h.set o' g)
        | none => none
      | false => none
    | none => none

/-! ### frames -/
inductive AItem where
  | code (c : Code)
  | inBlock (id : Nat)
  | inLoop (body : Code)
  | inScope (body : Code)
  | reg (ops rest : List Oper)
  | draw (ops : List Oper) (bs : List Nat) (last : Option Nat) (todo : List Nat) (done : List Nat) (als : List (Nat × Pos))
  | drawIn (ops : List Oper) (bs : List Nat) (last : Nat) (todo : List Nat) (done : List Nat) (als : List (Nat × Pos))
  | inRange (l : Pos)
  | endRange (l : Pos)
  | beginRound
  deriving Inhabited
structure APanic where
  v : AV
  recovered : Bool
  deriving Inhabited
inductive AMode where
  | run
  | returning
  | panicking (chain : List APanic)
  deriving Inhabited
structure AFrame where
  fn : FuncId
  n : Nat
  tmps : T AV
  todo : List AItem
  defers : List ADef
  mode : AMode
  deferred : Bool
  roundOf : Option Pos
  deriving Inhabited
structure St where
  fr : AFrame
  cs : List AFrame
  h : T Obj
  next : Pos
  deriving Inhabited

/-- What the run is given: the program, the number of old groups, functions that return a new list of flat values, which is known by the arguments and the memory. -/
structure Env where
  P : Program
  base : Nat
  hooks : List (FuncId × (List AV → T Obj → Option (List AV × TypeId)))

def tget (t : T AV) (k : Nat) : AV := match t.at k with
  | some v => v
  | none => undefA
def evalA (base : Nat) (t : T AV) : Operand → Option AV
  | .tmp k => some (tget t k)
  | .const v => absV 500 v
  | .global g => match Nat.ble (Nat.add g 1) base with
    | true => some (.ptr (nk g) 0 0)
    | false => none
  | .func f => some (.func (.func f) [] [])
def evalsA (base : Nat) (t : T AV) : List Operand → Option (List AV)
  | [] => some []
  | x :: l => match evalA base t x with
    | some v => match evalsA base t l with
      | some k => some (v :: k)
      | none => none
    | none => none
def evalO (base : Nat) (t : T AV) : Option Operand → Option (Option AV)
  | none => some none
  | some x => match evalA base t x with
    | some v => some (some v)
    | none => none
def evalPs (base : Nat) (t : T AV) : List (Nat × Operand) → Option (List (Nat × AV))
  | [] => some []
  | (i, x) :: l => match evalA base t x with
    | some v => match evalPs base t l with
      | some k => some ((i, v) :: k)
      | none => none
    | none => none

inductive Res where
  | val (v : AV) (h : T Obj) (next : Pos)
  | enter (f : FuncId) (args : List AV)
  | round (l : Pos) (lp : ALoop) (args : List AV)
  | defer (d : ADef)
  | recover
  | panic (v : AV)

section
variable (P : Program)
def szA (t : TypeId) : Option Nat := match P.info? t with
  | some i => some i.size
  | none => none
def zeroA (t : TypeId) : Option AV := match P.info? t with
  | some i => match i.zero with
    | some z => absV 500 z
    | none => none
  | none => none
def isAggA (t : TypeId) : Option Bool := match P.underlying t with
  | some (.struct _) => some true
  | some (.array _ _) => some true
  | some _ => some false
  | none => none
def loadA (h : T Obj) (t : TypeId) (a : AV) : Option AV :=
  match a with
  | .ptr g v c => match isAggA P t with
    | some true => match szA P t with
      | some n => match getCells h g v c n with
        | some l => some (.agg l)
        | none => none
      | none => none
    | some false => match getCells h g v c 1 with
      | some (x :: _) => some x
      | _ => none
    | none => none
  | _ => none
def storeA (base : Nat) (h : T Obj) (t : TypeId) (a x : AV) : Option (T Obj) :=
  match a with
  | .ptr g v c => match szA P t with
    | some n => match Nat.beq (len x.cells) n with
      | true => setCells base h g v c x.cells
      | false => none
    | none => none
  | _ => none
def partA (t : TypeId) (cs : List AV) (off : Nat) : Option AV :=
  match isAggA P t with
  | some true => match szA P t with
    | some n => match takeN n (dropN off cs) with
      | some l => some (.agg l)
      | none => none
    | none => none
  | some false => match dropN off cs with
    | x :: _ => some x
    | [] => none
  | none => none
def fillA (place : Nat → Option (Nat × Nat)) : List (Nat × AV) → List AV → Option (List AV)
  | [], cells => some cells
  | (i, v) :: rest, cells => match place i with
    | some (off, size) => match Nat.beq (len v.cells) size with
      | true => match putAt off cells v.cells with
        | some l => fillA place rest l
        | none => none
      | false => none
    | none => none
def placesA : List Field → Option (List (Nat × Nat))
  | [] => some []
  | f :: l => match szA P f.type with
    | some s => match placesA l with
      | some k => some ((f.offset, s) :: k)
      | none => none
    | none => none
def quietObj : Obj → Bool
  | .row _ _ => true
  | .arr _ _ _ frz _ => Nat.beq frz 0
  | _ => false
def sameP (h : T Obj) (a b : AV) : Option Bool :=
  match a, b with
  | .nilptr, .nilptr => some true
  | .nilptr, .ptr _ _ _ => some false
  | .ptr _ _ _, .nilptr => some false
  | .ptr g v c, .ptr g' v' c' => match g.beq g' with
    | true => match Nat.beq v v' with
      | true => some (Nat.beq c c')
      | false => none
    | false => match h.get g, h.get g' with
      | some x, some y => match quietObj x with
        | true => match quietObj y with
          | true => some false
          | false => none
        | false => none
      | _, _ => none
  | _, _ => none
def intEq (a b : Int) : Bool := match a, b with
  | .ofNat m, .ofNat n => Nat.beq m n
  | .negSucc m, .negSucc n => Nat.beq m n
  | _, _ => false
def kindEq (a b : IntKind) : Bool := match a, b with
  | .i8, .i8 => true | .i16, .i16 => true | .i32, .i32 => true | .i64, .i64 => true
  | .u8, .u8 => true | .u16, .u16 => true | .u32, .u32 => true | .u64, .u64 => true
  | _, _ => false
/-- struct fields, one after the other -/
def eqFs (eq : TypeId → AV → AV → Option Bool) (xs ys : List AV) : List Field → Option Bool
  | [] => some true
  | f :: fs => match (f.name == "_") with
    | true => eqFs eq xs ys fs
    | false => match partA P f.type xs f.offset, partA P f.type ys f.offset with
      | some x, some y => match eq f.type x y with
        | some true => eqFs eq xs ys fs
        | some false => some false
        | none => none
      | _, _ => none
def eqA (h : T Obj) : Nat → TypeId → AV → AV → Option Bool
  | 0, _, _, _ => none
  | d + 1, t, x, y =>
    match P.underlying t with
    | some .bool => match x, y with
      | .bool a, .bool b => some (a == b)
      | _, _ => none
    | some (.int _) => match x, y with
      | .int k a, .int k' b => match kindEq k k' with
        | true => some (intEq a b)
        | false => none
      | _, _ => none
    | some .string => match x, y with
      | .str a, .str b => some (Nat.beq a b)
      | _, _ => none
    | some (.pointer e) => match szA P e with
      | some 0 => none
      | some (_ + 1) => sameP h x y
      | none => none
    | some (.interface _) => match x, y with
      | .niliface, .niliface => some true
      | .niliface, .iface _ _ => some false
      | .iface _ _, .niliface => some false
      | _, _ => none
    | some (.struct fields) => match x, y with
      | .agg xs, .agg ys => match P.stoodInHeld t with
        | true => none
        | false => eqFs P (eqA h d) xs ys fields.toList
      | _, _ => none
    | some (.slice _) => match x, y with
      | .nilslice, .nilslice => some true
      | .nilslice, .slice _ _ _ _ _ _ => some false
      | .slice _ _ _ _ _ _, .nilslice => some false
      | _, _ => none
    | some (.map _ _) => match x, y with
      | .nilmap, .nilmap => some true
      | .nilmap, .map _ => some false
      | .map _, .nilmap => some false
      | _, _ => none
    | some (.func _ _ _) => match x, y with
      | .nilfunc, .nilfunc => some true
      | .nilfunc, .func _ _ _ => some false
      | .func _ _ _, .nilfunc => some false
      | _, _ => none
    | _ => none
def guardEq (t : TypeId) (isConst : Bool) (x y : AV) : Bool :=
  match x, y with
  | .niliface, .niliface => isConst
  | .agg _, .agg _ => !(P.eqGuardType P.depth t)
  | _, _ => true
def intLt (a b : Int) : Bool := match a, b with
  | .ofNat m, .ofNat n => Nat.blt m n
  | .negSucc _, .ofNat _ => true
  | .ofNat _, .negSucc _ => false
  | .negSucc m, .negSucc n => Nat.blt n m
def small (n : Int) : Bool := match n with
  | .ofNat m => Nat.blt m 9223372036854775808
  | .negSucc m => Nat.blt m 9223372036854775808
def wrapA (k : IntKind) (n : Int) : Int := match k with
  | .i64 => match small n with
    | true => n
    | false => IntKind.i64.wrap n
  | k => k.wrap n
def intOp (op : BinOp) (k : IntKind) (a b : Int) : Option AV :=
  match op with
  | .add => some (.int k (wrapA k (a + b)))
  | .sub => some (.int k (wrapA k (a - b)))
  | .mul => some (.int k (wrapA k (a * b)))
  | .quo => match intEq b 0 with
    | true => none
    | false => some (.int k (wrapA k (a.tdiv b)))
  | .rem => match intEq b 0 with
    | true => none
    | false => some (.int k (a.tmod b))
  | .eql => some (.bool (intEq a b))
  | .neq => some (.bool (!(intEq a b)))
  | .lss => some (.bool (intLt a b))
  | .leq => some (.bool (!(intLt b a)))
  | .gtr => some (.bool (intLt b a))
  | .geq => some (.bool (!(intLt a b)))
  | .and => some (.int k (k.wrap (BitVec.ofInt k.bits a &&& BitVec.ofInt k.bits b).toNat))
  | .or => some (.int k (k.wrap (BitVec.ofInt k.bits a ||| BitVec.ofInt k.bits b).toNat))
  | .shl => match intLt b 0 with
    | true => none
    | false => some (.int k (k.wrap (a * 2 ^ (min b.toNat k.bits))))
  | .shr => match intLt b 0 with
    | true => none
    | false => some (.int k (a.fdiv (2 ^ (min b.toNat k.bits))))
  | _ => none
def isShift : BinOp → Bool
  | .shl => true
  | .shr => true
  | _ => false
def strOp (op : BinOp) (a b : Nat) : Option AV :=
  match op with
  | .add => match Nat.blt 1000000 (Nat.add (slen a) (slen b)) with
    | true => none
    | false => some (.str (scat a b))
  | .eql => some (.bool (Nat.beq a b))
  | .neq => some (.bool (!(Nat.beq a b)))
  | .lss => some (.bool (sless (sdec a) (sdec b)))
  | _ => none
def binA (h : T Obj) (op : BinOp) (t : TypeId) (isConst : Bool) (x y : AV) : Option AV :=
  match x, y with
  | .int k a, .int k' b => match isShift op with
    | true => intOp op k a b
    | false => match kindEq k k' with
      | true => intOp op k a b
      | false => none
  | .str a, .str b => strOp op a b
  | x, y => match op with
    | .eql => match guardEq P t isConst x y with
      | true => match eqA P h 8 t x y with
        | some b => some (.bool b)
        | none => none
      | false => none
    | .neq => match guardEq P t isConst x y with
      | true => match eqA P h 8 t x y with
        | some b => some (.bool (!b))
        | none => none
      | false => none
    | _ => none
def isConstOp : Operand → Bool
  | .const _ => true
  | _ => false

def bytesRow : List Nat → List AV
  | [] => []
  | b :: l => .int .u8 (Int.ofNat b) :: bytesRow l
def rowBytes : List AV → Option (List Nat)
  | [] => some []
  | .int .u8 (.ofNat b) :: l => match Nat.blt b 256 with
    | true => match rowBytes l with
      | some k => some (b :: k)
      | none => none
    | false => none
  | _ => none
def isU8 (t : TypeId) : Bool := match P.underlying t with
  | some (.int .u8) => true
  | _ => false
def liesIn (h : T Obj) (g : Pos) (v c : Nat) (u : TypeId) : Bool :=
  match h.get g with
  | some (.row cs e) => match v with
    | 0 => Nat.blt c (len cs) && liesAt P P.depth e (len cs / P.cellsOf e) c u 1
    | _ + 1 => false
  | _ => false
def convA (h : T Obj) (next : Pos) (src dst : TypeId) (x : AV) : Option Res :=
  match P.underlying src, P.underlying dst, x with
  | some (.int _), some (.int k), .int _ n => some (.val (.int k (wrapA k n)) h next)
  | some .string, some (.slice e), .str s => match isU8 P e with
    | true => match szA P e with
      | some 1 => match Nat.blt 1000000 (slen s) with
        | true => none
        | false => some (.val (.slice next 0 0 (slen s) none 1) (h.set (.arr (setRow 0 (bytesRow (sdec s)) 0 .leaf) 0 [slen s] 18446744073709551616 e) next) next.succ)
      | _ => none
    | false => none
  | some (.pointer t), some .unsafePointer, .ptr g v c => match szA P t with
    | some (_ + 1) => match liesIn P h g v c t with
      | true => some (.val (.ptr g v c) h next)
      | false => none
    | _ => none
  | some .unsafePointer, some (.pointer t), .ptr g v c => match szA P t with
    | some (_ + 1) => match liesIn P h g v c t with
      | true => some (.val (.ptr g v c) h next)
      | false => none
    | _ => none
  | _, _, _ => none

def natOf : Option AV → Option (Option Nat)
  | none => some none
  | some (.int _ (.ofNat n)) => some (some n)
  | _ => none
def orD (x : Option Nat) (d : Nat) : Nat := match x with
  | some n => n
  | none => d
def sliceA (t : TypeId) (x : AV) (lo hi : Option AV) : Option AV :=
  match natOf lo, natOf hi with
  | some lo, some hi => match P.underlying t with
    | some .string => match x with
      | .str s => match Nat.ble (orD lo 0) (orD hi (slen s)) with
        | true => match Nat.ble (orD hi (slen s)) (slen s) with
          | true => some (.str (sext s (orD lo 0) (orD hi (slen s))))
          | false => none
        | false => none
      | _ => none
    | some (.slice e) => match x with
      | .slice g v c n cap es => match szA P e with
        | some size => match Nat.beq size es with
          | true => match Nat.ble (orD lo 0) (orD hi n) with
            | true => match cap with
              | some k => match Nat.ble (orD hi n) k with
                | true => match Nat.beq k (orD lo 0) with
                  | true => some (.slice g v c 0 (some 0) es)
                  | false => some (.slice g v (Nat.add c (Nat.mul (orD lo 0) es)) (Nat.sub (orD hi n) (orD lo 0)) (some (Nat.sub k (orD lo 0))) es)
                | false => none
              | none => match Nat.ble (orD hi n) n with
                | true => some (.slice g v (Nat.add c (Nat.mul (orD lo 0) es)) (Nat.sub (orD hi n) (orD lo 0)) none es)
                | false => none
            | false => none
          | false => none
        | none => none
      | .nilslice => match orD lo 0, orD hi 0, szA P e with
        | 0, 0, some _ => some .nilslice
        | _, _, _ => none
      | _ => none
    | _ => none
  | _, _ => none

def newCells (x : AV) (h : T Obj) (size : Nat) : Option (Nat × List AV) :=
  match x with
  | .nilslice => some (0, [])
  | .slice g v c n _ es => match Nat.beq es size with
    | true => match getCells h g v c (Nat.mul n es) with
      | some l => some (n, l)
      | none => none
    | false => none
  | .str s => match Nat.beq size 1 with
    | true => some (slen s, bytesRow (sdec s))
    | false => none
  | _ => none
def tooMany (n bytes : Nat) : Bool := Nat.blt 1000000 (Nat.add n bytes)
def grow (h : T Obj) (next : Pos) (elem : TypeId) (es n : Nat) (cells : List AV) : Res :=
  .val (.slice next 0 0 n none es) (h.set (.arr (setRow 0 cells 0 .leaf) 0 [Nat.mul n es] 0 elem) next) next.succ
def appendA (base : Nat) (h : T Obj) (next : Pos) (st : TypeId) (xt : TypeId) (s x : AV) : Option Res :=
  match P.underlying xt with
  | some (.int _) => none
  | none => none
  | some _ => match P.underlying st with
    | some (.slice elem) => match P.info? elem with
      | some i => match (match zeroA P elem with | some z => (match Nat.beq (len z.cells) i.size with | true => newCells x h i.size | false => none) | none => none) with
        | some (n, new) => match s with
          | .nilslice => match tooMany n i.bytes with
            | true => none
            | false => match n with
              | 0 => some (.val .nilslice h next)
              | _ + 1 => some (grow h next elem i.size n new)
          | .slice g v c m cap es => match tooMany (Nat.add m n) i.bytes with
            | true => none
            | false => match Nat.beq es i.size with
              | false => none
              | true => match n with
                | 0 => some (.val s h next)
                | _ + 1 => match cap with
                  | some k => match Nat.ble (Nat.add m n) k with
                    | true => match setCells base h g v (Nat.add c (Nat.mul m es)) new with
                      | some h' => some (.val (.slice g v c (Nat.add m n) (some k) es) h' next)
                      | none => none
                    | false => match getCells h g v c (Nat.mul m es) with
                      | some old => some (grow h next elem es (Nat.add m n) (old ++ new))
                      | none => none
                  | none => match isOld base g with
                    | true => none
                    | false => match h.get g with
                      | some (.arr t latest ends frz el) => match Nat.beq el elem with
                        | false => none
                        | true => match endOf latest v ends with
                          | some e => match Nat.ble (Nat.add c (Nat.mul m es)) e with
                            | true => match Nat.ble frz (Nat.add c (Nat.mul m es)) with
                              | true => match getRow t v (Nat.mul m es) c with
                                | some _ => match flatL new with
                                  | false => none
                                  | true => some (.val (.slice g (Nat.add latest 1) c (Nat.add m n) none es)
                                    (h.set (.arr (setRow (Nat.add latest 1) new (Nat.add c (Nat.mul m es)) t) (Nat.add latest 1) (Nat.add c (Nat.mul (Nat.add m n) es) :: ends) frz el) g) next)
                                | none => none
                              | false => none
                            | false => none
                          | none => none
                      | _ => none
          | _ => none
        | none => none
      | none => none
    | _ => none

def findA (eq : AV → AV → Option Bool) (k : AV) : List (AV × AV) → Option (Option AV)
  | [] => some none
  | (x, v) :: l => match eq k x with
    | some true => some (some v)
    | some false => findA eq k l
    | none => none
def putA (eq : AV → AV → Option Bool) (k v : AV) : List (AV × AV) → Option (List (AV × AV))
  | [] => some [(k, v)]
  | (x, w) :: l => match eq k x with
    | some true => some ((k, v) :: l)
    | some false => match putA eq k v l with
      | some r => some ((x, w) :: r)
      | none => none
    | none => none
/-- keys that are numbers, strings or pointers: as maps of the program have them -/
def eqKey (kd : TypeDesc) (x y : AV) : Option Bool :=
  match kd with
  | .int _ => match x, y with
    | .int k a, .int k' b => match kindEq k k' with
      | true => some (intEq a b)
      | false => none
    | _, _ => none
  | .string => match x, y with
    | .str a, .str b => some (Nat.beq a b)
    | _, _ => none
  | _ => none

def plainKey : TypeDesc → Bool
  | .int _ => true
  | .string => true
  | _ => false
def hookOf (f : FuncId) : List (FuncId × (List AV → T Obj → Option (List AV × TypeId))) → Option (List AV → T Obj → Option (List AV × TypeId))
  | [] => none
  | (g, r) :: l => match Nat.beq f g with
    | true => some r
    | false => hookOf f l
def callF (E : Env) (h : T Obj) (next : Pos) (f : FuncId) (args : List AV) : Option Res :=
  match E.P.funcs[f]? with
  | some fn => match fn.body with
    | some _ => match (fn.name == "runtime.NumGoroutine") with
      | false => some (.enter f args)
      | true => none
    | none => match (fn.name == "internal/abi.NoEscape") with
      | true => match args with
        | [x] => some (.val x h next)
        | _ => none
      | false => none
  | none => none
def methodA (t : TypeId) (name : String) : Option FuncId :=
  match P.info? t with
  | some i => match i.methods.find? (·.name == name) with
    | some m => match m.path.toList with
      | [] => match m.func, P.underlying t with
        | some (f, true), some (.pointer _) => some f
        | some (f, false), some (.struct _) => some f
        | _, _ => none
      | _ => none
    | none => none
  | none => none
def invokeA (E : Env) (h : T Obj) (next : Pos) (f : AV) (args : List AV) : Option Res :=
  match f with
  | .func (.func k) first cap => callF E h next k (first ++ args ++ cap)
  | .func (.method name) first _ => match first ++ args with
    | .iface t v :: rest => match methodA E.P t name with
      | some k => callF E h next k (v :: rest)
      | none => none
    | _ => none
  | .yield g => match h.get g with
    | some (.loop l) => match Nat.beq (len args) (len l.params) with
      | true => some (.round g l args)
      | false => none
    | _ => none
  | _ => none
def maxA (less : Bool) (k : IntKind) : List AV → Int → Option Int
  | [], a => some a
  | .int _ b :: l, a => match (match less with | true => intLt b a | false => intLt a b) with
    | true => maxA less k l b
    | false => maxA less k l a
  | _, _ => none
def replicateA : Nat → List AV → List AV
  | 0, _ => []
  | n + 1, l => l ++ replicateA n l

def hasMethods (want : List (String × TypeId)) (i : TypeInfo) : Bool :=
  match want with
  | [] => true
  | (name, sig) :: l => match (i.methods.any fun m => m.name == name && m.sig == sig) with
    | true => hasMethods l i
    | false => false

def lenA (h : T Obj) (t : TypeId) (x : AV) : Option AV :=
  match P.underlying t, x with
  | some .string, .str s => some (.int .i64 (Int.ofNat (slen s)))
  | some (.slice _), .slice _ _ _ n _ _ => some (.int .i64 (Int.ofNat n))
  | some (.slice _), .nilslice => some (.int .i64 0)
  | some (.map _ _), .nilmap => some (.int .i64 0)
  | some (.map _ _), .map g => match h.get g with
    | some (.map es) => some (.int .i64 (Int.ofNat (len es)))
    | _ => none
  | some (.array n _), _ => some (.int .i64 (Int.ofNat n))
  | _, _ => none
end

def copyA (E : Env) (h : T Obj) (next : Pos) (dt : TypeId) (d s : AV) : Option Res :=
  match E.P.underlying dt with
  | some (.slice e) => match szA E.P e with
    | some size => match d, s with
      | .slice g v c n _ es, .slice g' v' c' n' _ es' => match Nat.beq es size with
        | true => match Nat.beq es' size with
          | true => match getCells h g' v' c' (Nat.mul (Nat.min n' n) es) with
            | some l => match setCells E.base h g v c l with
              | some h' => some (.val (.int .i64 (Int.ofNat (Nat.min n' n))) h' next)
              | none => none
            | none => none
          | false => none
        | false => none
      | _, _ => none
    | none => none
  | _ => none
def unsafeStr (E : Env) (h : T Obj) (next : Pos) (pt : TypeId) (p n : AV) : Option Res :=
  match n with
  | .int _ (.ofNat 0) => match p with
    | .nilptr => some (.val (.str 1) h next)
    | .ptr _ _ _ => some (.val (.str 1) h next)
    | _ => none
  | .int _ (.ofNat (k + 1)) => match p with
    | .ptr g v c => match E.P.underlying pt with
      | some (.pointer u) => match isOld E.base g with
        | true => none
        | false => match getCells h g v c (Nat.add k 1) with
          | some l => match rowBytes l with
            | some bs => match h.get g with
              | some (.arr t latest ends frz el) => match Nat.beq el u with
                | true => match E.P.info? el with
                  | some i => match i.size with
                    | 1 => match Nat.blt 1000000 k with
                      | true => none
                      | false => some (.val (.str (encL bs 1)) (h.set (.arr t latest ends (Nat.max frz (Nat.add c (Nat.add k 1))) el) g) next)
                    | _ => none
                  | none => none
                | false => none
              | _ => none
            | none => none
          | none => none
      | _ => none
    | _ => none
  | _ => none
def builtinA (E : Env) (h : T Obj) (next : Pos) (b : Builtin) (types : List TypeId) (args : List AV) : Option Res :=
  match b with
  | .append => match types, args with
    | st :: xt :: _, s :: x :: _ => appendA E.P E.base h next st xt s x
    | _, _ => none
  | .copy => match types, args with
    | dt :: _, d :: s :: _ => copyA E h next dt d s
    | _, _ => none
  | .recover => some .recover
  | .panic => match args with
    | x :: _ => match x with
      | .iface t v => some (.panic (.iface t v))
      | _ => none
    | _ => none
  | .unsafeSliceData => match args with
    | [.nilslice] => some (.val .nilptr h next)
    | [.slice g v c n _ _] => match n with
      | 0 => none
      | _ + 1 => some (.val (.ptr g v c) h next)
    | _ => none
  | .unsafeString => match types, args with
    | pt :: _, [p, n] => unsafeStr E h next pt p n
    | _, _ => none
  | _ => none

/-- operations that turn nothing in memory -/
def opS (E : Env) (h : T Obj) (t : T AV) (o : Oper) : Option AV :=
  match o.op with
  | .move x => match evalA E.base t x with
    | some v => some v
    | none => none
  | .pick c a b => match evalA E.base t c with
    | some (.bool true) => match evalA E.base t a with
      | some v => some v
      | none => none
    | some (.bool false) => match evalA E.base t b with
      | some v => some v
      | none => none
    | _ => none
  | .build ty parts => match zeroA E.P ty, evalPs E.base t parts.toList with
    | some z, some ps => match E.P.underlying ty with
      | some (.struct fields) => match placesA E.P fields.toList with
        | some pl => match fillA (fun i => nth i pl) ps z.cells with
          | some l => some (.agg l)
          | none => none
        | none => none
      | some (.array _ e) => match szA E.P e with
        | some s => match fillA (fun i => some (Nat.mul i s, s)) ps z.cells with
          | some l => some (.agg l)
          | none => none
        | none => none
      | _ => none
    | _, _ => none
  | .load ty a => match evalA E.base t a with
    | some a => match loadA E.P h ty a with
      | some v => some v
      | none => none
    | none => none
  | .nilCheck x => match evalA E.base t x with
    | some (.ptr g v c) => some (.ptr g v c)
    | _ => none
  | .binOp op ty x y _ => match evalA E.base t x, evalA E.base t y with
    | some a, some b => match binA E.P h op ty (isConstOp x || isConstOp y) a b with
      | some v => some v
      | none => none
    | _, _ => none
  | .unOp op _ x => match op, evalA E.base t x with
    | .not, some (.bool b) => some (.bool (!b))
    | .neg, some (.int k n) => some (.int k (wrapA k (0 - n)))
    | .xor, some (.int k n) => some (.int k (k.wrap (BitVec.ofInt k.bits (if k.signed then -1 else k.max) ^^^ BitVec.ofInt k.bits n).toNat))
    | _, _ => none
  | .makeInterface ty x => match E.P.underlying ty, evalA E.base t x with
    | some (.interface _), _ => none
    | some _, some v => some (.iface ty v)
    | _, _ => none
  | .makeFunc fn first cap => match fn, evalsA E.base t first.toList, evalsA E.base t cap.toList with
    | .func k, some a, some b => some (.func (.func k) a b)
    | .method m, some a, some b => some (.func (.method m) a b)
    | _, _, _ => none
  | .slice ty x lo hi none => match evalA E.base t x, evalO E.base t lo, evalO E.base t hi with
    | some x, some lo, some hi => match sliceA E.P ty x lo hi with
      | some v => some v
      | none => none
    | _, _, _ => none
  | .fieldAddr s x f => match E.P.underlying s, evalA E.base t x with
    | some (.struct fields), some (.ptr g v c) => match nth f fields.toList with
      | some fd => match szA E.P fd.type with
        | some (_ + 1) => some (.ptr g v (Nat.add c fd.offset))
        | _ => none
      | none => none
    | _, _ => none
  | .field s x f => match E.P.underlying s, evalA E.base t x with
    | some (.struct fields), some (.agg cs) => match nth f fields.toList with
      | some fd => match partA E.P fd.type cs fd.offset with
        | some v => some v
        | none => none
      | none => none
    | _, _ => none
  | .indexAddr ty x i => match E.P.underlying ty, evalA E.base t x, evalA E.base t i with
    | some (.slice e), some (.slice g v c n _ es), some (.int _ (.ofNat i)) => match Nat.blt i n with
      | true => match szA E.P e with
        | some s => match Nat.beq s es with
          | true => some (.ptr g v (Nat.add c (Nat.mul i es)))
          | false => none
        | none => none
      | false => none
    | some (.array n e), some (.ptr g v c), some (.int _ (.ofNat i)) => match Nat.blt i n with
      | true => match szA E.P e with
        | some s => some (.ptr g v (Nat.add c (Nat.mul i s)))
        | none => none
      | false => none
    | _, _, _ => none
  | .index ty x i => match E.P.underlying ty, evalA E.base t x, evalA E.base t i with
    | some (.array n e), some (.agg cs), some (.int _ (.ofNat i)) => match Nat.blt i n with
      | true => match szA E.P e with
        | some s => match partA E.P e cs (Nat.mul i s) with
          | some v => some v
          | none => none
        | none => none
      | false => none
    | some .string, some (.str s), some (.int _ (.ofNat i)) => match Nat.blt i (slen s) with
      | true => some (.int .u8 (Int.ofNat (sget s i)))
      | false => none
    | _, _, _ => none
  | .lookup ty x i ok => match E.P.underlying ty, evalA E.base t x, evalA E.base t i with
    | some (.map kt e), some (.map g), some k => match h.get g, E.P.underlying kt with
      | some (.map es), some kd => match plainKey kd with
        | true => match findA (eqKey kd) k es with
          | some (some v) => some (match ok with | true => .tuple [v, .bool true] | false => v)
          | some none => match zeroA E.P e with
            | some z => some (match ok with | true => .tuple [z, .bool false] | false => z)
            | none => none
          | none => none
        | false => none
      | _, _ => none
    | _, _, _ => none
  | .typeAssert x _ ty ok => match E.P.underlying ty, evalA E.base t x with
    | some (.interface _), _ => none
    | some _, some (.iface ty' v) => match Nat.beq ty' ty with
      | true => some (match ok with | true => .tuple [v, .bool true] | false => v)
      | false => match ok, zeroA E.P ty with
        | true, some z => some (.tuple [z, .bool false])
        | _, _ => none
    | some _, some .niliface => match ok, zeroA E.P ty with
      | true, some z => some (.tuple [z, .bool false])
      | _, _ => none
    | _, _ => none
  | .extract x i => match evalA E.base t x with
    | some (.tuple l) => match nth i l with
      | some v => some v
      | none => none
    | _ => none
  | .call c => match c.callee with
    | .builtin .len => match c.argTypes.toList, evalsA E.base t c.args.toList with
      | ty :: _, some (x :: _) => lenA E.P h ty x
      | _, _ => none
    | .builtin .min => match evalsA E.base t c.args.toList with
      | some (.int k a :: l) => match maxA true k l a with
        | some r => some (.int k r)
        | none => none
      | _ => none
    | .builtin .max => match evalsA E.base t c.args.toList with
      | some (.int k a :: l) => match maxA false k l a with
        | some r => some (.int k r)
        | none => none
      | _ => none
    | _ => none
  | _ => none

/-- a new row: its cells, their type; a slice of so many elements of so many cells, or a pointer -/
def allocA (E : Env) (t : T AV) (o : Oper) : Option (List AV × TypeId × Option (Nat × Nat)) :=
  match o.op with
  | .alloc e => match zeroA E.P e with
    | some z => some (z.cells, e, none)
    | none => none
  | .box e x => match evalA E.base t x with
    | some v => some (v.cells, e, none)
    | none => none
  | .buildSlice ty n parts => match E.P.underlying ty, evalPs E.base t parts.toList with
    | some (.slice e), some ps => match szA E.P e with
      | some s => match zeroA E.P e with
        | some z => match Nat.beq (len z.cells) s with
          | true => match Nat.blt 1000000 (Nat.mul n s) with
            | true => none
            | false => match fillA (fun i => some (Nat.mul i s, s)) ps (replicateA n z.cells) with
              | some l => some (l, e, some (n, s))
              | none => none
          | false => none
        | none => none
      | none => none
    | _, _ => none
  | _ => none
def mkAl (g : Pos) : Option (Nat × Nat) → AV
  | none => .ptr g 0 0
  | some (n, s) => .slice g 0 0 n (some n) s

def opE (E : Env) (h : T Obj) (next : Pos) (t : T AV) (o : Oper) : Option Res :=
  match o.op with
  | .assign x => match evalA E.base t x with
    | some v => some (.val v h next)
    | none => none
  | .alloc _ => newA
  | .box _ _ => newA
  | .buildSlice _ _ _ => newA
  | .store ty a x => match evalA E.base t a, evalA E.base t x with
    | some a, some x => match storeA E.P E.base h ty a x with
      | some h' => some (.val undefA h' next)
      | none => none
    | _, _ => none
  | .convert s d x => match evalA E.base t x with
    | some v => convA E.P h next s d v
    | none => none
  | .makeMap _ none => some (.val (.map next) (h.set (.map []) next) next.succ)
  | .makeMap ty (some x) => match E.P.underlying ty, evalA E.base t x with
    | some (.map _ _), some (.int _ _) => some (.val (.map next) (h.set (.map []) next) next.succ)
    | _, _ => none
  | .makeSlice ty l c => match E.P.underlying ty, evalA E.base t l, evalA E.base t c with
    | some (.slice e), some (.int _ (.ofNat l)), some (.int _ (.ofNat c)) => match E.P.info? e with
      | some i => match zeroA E.P e with
        | some z => match Nat.beq (len z.cells) i.size with
          | true => match Nat.ble l c with
            | true => match tooMany c i.bytes with
              | true => none
              | false => match i.size with
                | 0 => none
                | _ + 1 => some (.val (.slice next 0 0 l (some c) i.size) (h.set (.arr (setRow 0 (replicateA c z.cells) 0 .leaf) 0 [Nat.mul c i.size] 0 e) next) next.succ)
            | false => none
          | false => none
        | none => none
      | none => none
    | _, _, _ => none
  | .mapUpdate ty m k x => updateA E h next ty (evalA E.base t m) (evalA E.base t k) (evalA E.base t x)
  | .insert ty m k x => updateA E h next ty (evalA E.base t m) (evalA E.base t k) (evalA E.base t x)
  | .call c => match evalsA E.base t c.args.toList with
    | some args => match c.callee with
      | .value f => match evalA E.base t f with
        | some f => invokeA E h next f args
        | none => none
      | .invoke r name => match evalA E.base t r with
        | some (.iface ty v) => match methodA E.P ty name with
          | some k => callF E h next k (v :: args)
          | none => none
        | _ => none
      | .builtin b => builtinA E h next b c.argTypes.toList args
    | none => none
  | .defer c => match evalsA E.base t c.args.toList with
    | some args => match c.callee with
      | .value f => match evalA E.base t f with
        | some (.func fn a b) => some (.defer (.call (.func fn a b) args))
        | _ => none
      | _ => none
    | none => none
  | .panic x => match evalA E.base t x with
    | some (.iface ty v) => some (.panic (.iface ty v))
    | _ => none
  | _ => none
where
  newA : Option Res := match allocA E t o with
    | some (cs, e, k) => some (.val (mkAl next k) (h.set (.row cs e) next) next.succ)
    | none => none
  updateA (E : Env) (h : T Obj) (next : Pos) (ty : TypeId) (m k x : Option AV) : Option Res :=
    match E.P.underlying ty, m, k, x with
    | some (.map kt _), some (.map g), some k, some x => match isOld E.base g with
      | true => none
      | false => match h.get g, E.P.underlying kt with
        | some (.map es), some kd => match plainKey kd with
          | true => match putA (eqKey kd) k x es with
            | some es' => some (.val undefA (h.set (.map es') g) next)
            | none => none
          | false => none
        | _, _ => none
    | _, _, _, _ => none

inductive Cls where
  | small | alloc | eff
  deriving DecidableEq
def cls (o : Oper) : Cls :=
  match o.op with
  | .move _ => .small | .pick _ _ _ => .small | .build _ _ => .small | .load _ _ => .small | .nilCheck _ => .small | .binOp _ _ _ _ _ => .small
  | .unOp _ _ _ => .small | .makeInterface _ _ => .small | .makeFunc _ _ _ => .small | .slice _ _ _ _ _ => .small | .fieldAddr _ _ _ => .small | .field _ _ _ => .small
  | .indexAddr _ _ _ => .small | .index _ _ _ => .small | .lookup _ _ _ _ => .small | .typeAssert _ _ _ _ => .small | .extract _ _ => .small
  | .alloc _ => .alloc | .box _ _ => .alloc | .buildSlice _ _ _ => .alloc
  | .call c => match c.callee with
    | .builtin .len => .small
    | .builtin .min => .small
    | .builtin .max => .small
    | _ => .eff
  | _ => .eff
def opA (E : Env) (h : T Obj) (next : Pos) (t : T AV) (o : Oper) : Option Res :=
  match cls o with
  | .small => match opS E h t o with
    | some v => some (.val v h next)
    | none => none
  | _ => opE E h next t o

/-! ### drawn regions -/
mutual
def AV.beq : AV → AV → Bool
  | .bool a, y => match y with
    | .bool b => a == b
    | _ => false
  | .int k a, y => match y with
    | .int j b => kindEq k j && intEq a b
    | _ => false
  | .str a, y => match y with
    | .str b => Nat.beq a b
    | _ => false
  | .ptr g v c, y => match y with
    | .ptr g' v' c' => g.beq g' && (Nat.beq v v' && Nat.beq c c')
    | _ => false
  | .nilptr, y => match y with
    | .nilptr => true
    | _ => false
  | .slice g v c n cap es, y => match y with
    | .slice g' v' c' n' cap' es' => g.beq g' && (Nat.beq v v' && (Nat.beq c c' && (Nat.beq n n' && (Nat.beq es es' && (match cap, cap' with
      | some a, some b => Nat.beq a b
      | none, none => true
      | _, _ => false)))))
    | _ => false
  | .nilslice, y => match y with
    | .nilslice => true
    | _ => false
  | .map g, y => match y with
    | .map g' => g.beq g'
    | _ => false
  | .nilmap, y => match y with
    | .nilmap => true
    | _ => false
  | .func fn a b, y => match y with
    | .func fn' a' b' => (match fn, fn' with
      | .func k, .func k' => Nat.beq k k'
      | .method m, .method m' => m == m'
      | _, _ => false) && (AV.beqs a a' && AV.beqs b b')
    | _ => false
  | .yield g, y => match y with
    | .yield g' => g.beq g'
    | _ => false
  | .nilfunc, y => match y with
    | .nilfunc => true
    | _ => false
  | .iface t v, y => match y with
    | .iface t' v' => Nat.beq t t' && AV.beq v v'
    | _ => false
  | .niliface, y => match y with
    | .niliface => true
    | _ => false
  | .agg a, y => match y with
    | .agg b => AV.beqs a b
    | _ => false
  | .tuple a, y => match y with
    | .tuple b => AV.beqs a b
    | _ => false
def AV.beqs : List AV → List AV → Bool
  | [], y => match y with
    | [] => true
    | _ => false
  | a :: l, y => match y with
    | b :: k => AV.beq a b && AV.beqs l k
    | [] => false
end

def isEff (o : Oper) : Bool := match cls o with
  | .eff => true
  | _ => false
/-- for each operation, as a number's bits, those that come ahead of it -/
def orEdges (acc : List Nat) : List Edge → Nat → Nat
  | [], s => s
  | e :: l, s => orEdges acc l (match Region.binds .any e with
    | true => Nat.lor (Nat.lor s (Nat.shiftLeft 1 e.on)) (match nth e.on acc with
      | some b => b
      | none => 0)
    | false => s)
def befores : List Oper → List Nat → List Nat
  | [], acc => acc
  | o :: l, acc => befores l (acc ++ [orEdges acc o.after.toList 0])
def bit (b i : Nat) : Bool := Nat.beq (Nat.mod (Nat.shiftRight b i) 2) 1
def effsOf : List Oper → Nat → List Nat
  | [], _ => []
  | o :: l, i => match isEff o with
    | true => i :: effsOf l (Nat.add i 1)
    | false => effsOf l (Nat.add i 1)
def bitOf (bs : List Nat) (i j : Nat) : Bool := match nth j bs with
  | some b => bit b i
  | none => false
/-- each effect comes ahead of the next one -/
def chain (bs : List Nat) : List Nat → Bool
  | [] => true
  | i :: l => (match l with
    | [] => true
    | j :: _ => bitOf bs i j) && chain bs l
def noneOf (bs : List Nat) (i : Nat) : List Nat → Bool
  | [] => true
  | e :: l => !(bitOf bs e i) && noneOf bs i l
/-- the small operations of a phase: no effect to come is ahead of them, and they are not ahead of the last effect -/
def smalls (bs : List Nat) (last : Option Nat) (todo : List Nat) : List Oper → Nat → List Nat
  | [], _ => []
  | o :: l, i => match isEff o with
    | true => smalls bs last todo l (Nat.add i 1)
    | false => match noneOf bs i todo && (match last with | some e => !(bitOf bs i e) | none => true) with
      | true => i :: smalls bs last todo l (Nat.add i 1)
      | false => smalls bs last todo l (Nat.add i 1)
/-- the operands of an operation that the machine knows -/
def oOpt : Option Operand → List Operand
  | none => []
  | some x => [x]
def sndL : List (Nat × Operand) → List Operand
  | [] => []
  | (_, x) :: l => x :: sndL l
def opsL : Op → List Operand
  | .move x => [x] | .assign x => [x] | .pick c a b => [c, a, b] | .alloc _ => [] | .box _ x => [x]
  | .build _ ps => sndL ps.toList | .buildSlice _ _ ps => sndL ps.toList
  | .load _ x => [x] | .store _ a x => [a, x] | .nilCheck x => [x] | .binOp _ _ x y _ => [x, y] | .unOp _ _ x => [x] | .convert _ _ x => [x]
  | .makeInterface _ x => [x] | .makeFunc _ a b => a.toList ++ b.toList | .makeMap _ r => oOpt r | .makeSlice _ l c => [l, c]
  | .slice _ x lo hi _ => x :: (oOpt lo ++ oOpt hi) | .fieldAddr _ x _ => [x] | .field _ x _ => [x] | .indexAddr _ x i => [x, i] | .index _ x i => [x, i]
  | .lookup _ x i _ => [x, i] | .mapUpdate _ m k x => [m, k, x] | .insert _ m k x => [m, k, x] | .typeAssert x _ _ _ => [x] | .extract x _ => [x]
  | .call c => calleeL c ++ c.args.toList
  | .defer c => calleeL c ++ c.args.toList
  | .panic x => [x]
  | _ => []
where
  calleeL (c : Call) : List Operand := match c.callee with
    | .value f => [f]
    | .invoke r _ => [r]
    | .builtin _ => []
def mem (i : Nat) : List Nat → Bool
  | [] => false
  | j :: l => match Nat.beq i j with
    | true => true
    | false => mem i l
/-- Who writes a temporary comes ahead of the operation number i, or has not been made. -/
def writersOk (bs : List Nat) (fresh : Nat → Bool) (i k : Nat) : List Oper → Nat → Bool
  | [], _ => true
  | o :: l, j => (match o.dst with
    | some d => match Nat.beq d k with
      | true => (bitOf bs j i && !(Nat.beq i j)) || fresh j
      | false => true
    | none => true) && writersOk bs fresh i k l (Nat.add j 1)
def operandsOk (bs : List Nat) (fresh : Nat → Bool) (ops : List Oper) (i : Nat) : List Operand → Bool
  | [] => true
  | x :: l => match x with
    | .tmp k => writersOk bs fresh i k ops 0 && operandsOk bs fresh ops i l
    | _ => operandsOk bs fresh ops i l
def opOk (bs : List Nat) (fresh : Nat → Bool) (ops : List Oper) (i : Nat) (o : Oper) : Bool :=
  operandsOk bs fresh ops i (opsL o.op) && (match o.guard with
    | some (j, _) => match nth j ops with
      | some p => match p.dst with
        | some d => writersOk bs fresh i d ops 0
        | none => false
      | none => false
    | none => true)
def never : Nat → Bool := fun _ => false
def seesOk (bs : List Nat) (done : List Nat) (ops : List Oper) (i : Nat) (o : Oper) : Bool :=
  match opOk bs never ops i o with
  | true => true
  | false => opOk bs (fun j => !(mem j done)) ops i o
/-- Who comes ahead of an operation has a smaller number. -/
def edgesBack (i : Nat) : List Edge → Bool
  | [] => true
  | e :: l => (match Region.binds .any e with
    | true => Nat.blt e.on i
    | false => true) && edgesBack i l
def backOk : List Oper → Nat → Bool
  | [], _ => true
  | o :: l, i => edgesBack i o.after.toList && backOk l (Nat.add i 1)
/-- who comes ahead of whom, and the effects -/
def planOf (ops : List Oper) : Option (List Nat × List Nat) :=
  match backOk ops 0 && chain (befores ops []) (effsOf ops 0) with
  | true => some (befores ops [], effsOf ops 0)
  | false => none

def guardOk (ops : List Oper) (t : T AV) (o : Oper) : Bool :=
  match o.guard with
  | none => true
  | some (j, want) => match nth j ops with
    | some p => match p.dst with
      | some d => match tget t d with
        | .bool b => b == want
        | _ => false
      | none => false
    | none => false
def setDst (n : Nat) (t : T AV) (d : Option Nat) (v : AV) : Option (T AV) := match d with
  | some d => match Nat.blt d n with
    | true => some (t.put d v)
    | false => none
  | none => some t

def exitA (id : Nat) : List AItem → Option (List AItem)
  | [] => none
  | x :: k => match x with
    | .inBlock i => match Nat.beq i id with
      | true => some k
      | false => exitA id k
    | _ => exitA id k
def gotoA (l : Nat) : List AItem → Option (List AItem)
  | [] => none
  | x :: k => match x with
    | .inScope body => match findLabel body l with
      | some rest => some (.code rest :: .inScope body :: k)
      | none => gotoA l k
    | _ => gotoA l k

def argsT : List AV → Nat → T AV → T AV
  | [], _, t => t
  | x :: l, i, t => argsT l (Nat.add i 1) (t.put i x)
def enterA (P : Program) (f : FuncId) (args : List AV) (deferred : Bool) : Option AFrame :=
  match P.funcs[f]? with
  | some fn => match fn.body with
    | some c => match Nat.ble (len args) fn.ntmps with
      | true => some { fn := f, n := fn.ntmps, tmps := argsT args 0 .leaf, todo := [.code c], defers := [], mode := .run, deferred, roundOf := none }
      | false => none
    | none => none
  | none => none
def setParams (n : Nat) : List Nat → List AV → T AV → Option (T AV)
  | [], [], t => some t
  | p :: ps, a :: as, t => match Nat.blt p n with
    | true => setParams n ps as (t.put p a)
    | false => none
  | _, _, _ => none

def finishA (fr : AFrame) (v : AV) : Option AFrame :=
  match fr.todo with
  | x :: k => match x with
    | .reg ops (o :: rest) => match setDst fr.n fr.tmps o.dst v with
      | some t => some { fr with tmps := t, todo := .reg ops rest :: k }
      | none => none
    | .drawIn ops bs e todo done als => match nth e ops with
      | some o => match setDst fr.n fr.tmps o.dst v with
        | some t => some { fr with tmps := t, todo := .draw ops bs (some e) todo done als :: k }
        | none => none
      | none => none
    | .inRange l => some { fr with todo := .endRange l :: k }
    | .beginRound => some { fr with todo := k }
    | _ => none
  | [] => none

def raiseA (fr : AFrame) (vs : List APanic) : AFrame :=
  match fr.mode with
  | .panicking ch => { fr with mode := .panicking (vs ++ ch) }
  | _ => { fr with mode := .panicking vs }

def setLoop (s : St) (l : Pos) (lp : ALoop) : T Obj := s.h.set (.loop lp) l
def isNoneC : Option Code → Bool
  | none => true
  | some _ => false
def loopAt (base : Nat) (h : T Obj) (l : Pos) : Option ALoop := match isOld base l with
  | true => none
  | false => match h.get l with
    | some (.loop lp) => some lp
    | _ => none
def deferredAt (base : Nat) (h : T Obj) (l : Pos) : Option (List ADef) := match isOld base l with
  | true => none
  | false => match h.get l with
    | some (.deferred (some ds)) => some ds
    | _ => none
def leaveA (base : Nat) (s : St) (jump : Option Code) : Option St :=
  match s.fr.roundOf with
  | none => match jump with
    | none => some { s with fr := { s.fr with mode := .returning } }
    | some .ret => some { s with fr := { s.fr with mode := .returning } }
    | _ => none
  | some l => match loopAt base s.h l with
    | some lp => match s.cs with
      | c :: rest => match s.fr.deferred with
        | false => match finishA c (.bool (isNoneC jump)) with
          | some c' => some { s with fr := c', cs := rest, h := s.h.set (.loop { lp with state := (match isNoneC jump with | true => .ready | false => .done), pending := jump }) l }
          | none => none
        | _ => none
      | [] => none
    | _ => none

def applyA (E : Env) (s : St) (r : Res) : Option St :=
  match r with
  | .val v h next => match finishA s.fr v with
    | some fr => some { s with fr, h, next }
    | none => none
  | .enter f args => match hookOf f E.hooks with
    | some k => match k args s.h with
      | some (l, elem) => match finishA s.fr (.slice s.next 0 0 (len l) none 1) with
        | some fr => some { s with fr, h := s.h.set (.arr (setRow 0 l 0 .leaf) 0 [len l] 0 elem) s.next, next := s.next.succ }
        | none => none
      | none => none
    | none => match enterA E.P f args false with
      | some fr => some { s with fr, cs := s.fr :: s.cs }
      | none => none
  | .round l lp args => match setParams lp.n lp.params args lp.tmps with
    | some t => some { s with fr := { fn := lp.fn, n := lp.n, tmps := t, todo := [.code lp.assign, .beginRound, .code lp.body], defers := [], mode := .run, deferred := false, roundOf := some l }, cs := s.fr :: s.cs }
    | none => none
  | .defer d => match s.fr.roundOf with
    | none => match finishA { s.fr with defers := d :: s.fr.defers } undefA with
      | some fr => some { s with fr }
      | none => none
    | some _ => none
  | .recover => match s.fr.roundOf, s.fr.deferred, s.cs with
    | none, true, c :: rest => match c.mode with
      | .panicking (p :: older) => match p.recovered with
        | false => match finishA s.fr p.v with
          | some fr => some { s with fr, cs := { c with mode := .panicking ({ v := p.v, recovered := true } :: older) } :: rest }
          | none => none
        | true => match finishA s.fr .niliface with
          | some fr => some { s with fr }
          | none => none
      | .panicking [] => none
      | _ => match finishA s.fr .niliface with
        | some fr => some { s with fr }
        | none => none
    | none, false, _ => match finishA s.fr .niliface with
      | some fr => some { s with fr }
      | none => none
    | _, _, _ => none
  | .panic v => some { s with fr := raiseA s.fr [{ v, recovered := false }] }

structure DSt where
  h : T Obj
  next : Pos
  t : T AV
  done : List Nat
  als : List (Nat × Pos)
/-- the small operations that have not been made -/
def runSmalls (E : Env) (n : Nat) (ops : List Oper) : List Nat → DSt → Option DSt
  | [], d => some d
  | i :: l, d => match mem i d.done with
    | true => runSmalls E n ops l d
    | false => match nth i ops with
      | some o => match guardOk ops d.t o with
        | true => match cls o with
          | .alloc => match allocA E d.t o with
            | some (cs, e, k) => match setDst n d.t o.dst (mkAl d.next k) with
              | some t => runSmalls E n ops l { h := d.h.set (.row cs e) d.next, next := d.next.succ, t, done := i :: d.done, als := (i, d.next) :: d.als }
              | none => none
            | none => none
          | .small => match opS E d.h d.t o with
            | some v => match setDst n d.t o.dst v with
              | some t => runSmalls E n ops l { d with t, done := i :: d.done }
              | none => none
            | none => none
          | .eff => none
        | false => match setDst n d.t o.dst undefA with
          | some t => runSmalls E n ops l { d with t, done := i :: d.done }
          | none => none
      | none => none
def alOf (i : Nat) : List (Nat × Pos) → Option Pos
  | [] => none
  | (j, g) :: l => match Nat.beq i j with
    | true => some g
    | false => alOf i l
def holdsV (n : Nat) (t : T AV) (d : Option Nat) (v : AV) : Bool := match d with
  | some k => Nat.blt k n && (tget t k).beq v
  | none => true
/-- Made now, a small operation gives what it gave. -/
def checkSmall (E : Env) (n : Nat) (bs : List Nat) (ops : List Oper) (d : DSt) (i : Nat) : Bool :=
  match nth i ops with
  | some o => match seesOk bs d.done ops i o with
    | true => match guardOk ops d.t o with
      | true => match cls o with
        | .alloc => match allocA E d.t o, alOf i d.als with
          | some (cs, e, k), some g => match d.h.get g with
            | some (.row cs' e') => AV.beqs cs cs' && (Nat.beq e e' && holdsV n d.t o.dst (mkAl g k))
            | _ => false
          | _, _ => false
        | .small => match opS E d.h d.t o with
          | some v => holdsV n d.t o.dst v
          | none => false
        | .eff => false
      | false => holdsV n d.t o.dst undefA
    | false => false
  | none => false
def checkSmalls (E : Env) (n : Nat) (bs : List Nat) (ops : List Oper) (d : DSt) : List Nat → Bool
  | [] => true
  | i :: l => checkSmall E n bs ops d i && checkSmalls E n bs ops d l

def drawA (E : Env) (n : Nat) (bs : List Nat) (ops : List Oper) (sm : List Nat) (d : DSt) : Option DSt :=
  match runSmalls E n ops sm d with
  | some d => match checkSmalls E n bs ops d sm with
    | true => some d
    | false => none
  | none => none

inductive Out where
  | on (s : St)
  | done (v : AV) (s : St)

def resA (P : Program) (t : T AV) (h : T Obj) : List ResultVar → Option (List AV)
  | [] => some []
  | r :: l => match (match r with
      | .tmp k => some (tget t k)
      | .cell a ty => loadA P h ty (tget t a)) with
    | some v => match resA P t h l with
      | some k => some (v :: k)
      | none => none
    | none => none
def resV : List AV → AV
  | [v] => v
  | l => .tuple l
def settleA : AMode → Option AMode
  | .panicking (p :: _) => match p.recovered with
    | true => some .returning
    | false => none
  | .panicking [] => none
  | m => some m

def onA : Option St → Option Out
  | some s => some (.on s)
  | none => none
/-- operations one after the other, until one calls -/
def runOps (E : Env) (n : Nat) (ops : List Oper) : List Oper → T Obj → Pos → T AV → Option (T Obj × Pos × T AV × List Oper × Option Res)
  | [], h, next, t => some (h, next, t, [], none)
  | o :: rest, h, next, t => match guardOk ops t o with
    | true => match opA E h next t o with
      | some (.val v h' next') => match setDst n t o.dst v with
        | some t' => runOps E n ops rest h' next' t'
        | none => none
      | some r => some (h, next, t, o :: rest, some r)
      | none => none
    | false => match setDst n t o.dst undefA with
      | some t' => runOps E n ops rest h next t'
      | none => none

def rangeA (E : Env) (s : St) (f : Operand) (params : Array Tmp) (assign body : Code) (k : List AItem) : Option St :=
  match evalA E.base s.fr.tmps f with
  | some fv => match s.fr.roundOf with
    | none =>
      let h1 := s.h.set (.deferred (some [])) s.next
      let l := s.next.succ
      let h2 := h1.set (.loop { state := .ready, pending := none, fn := s.fr.fn, n := s.fr.n, tmps := s.fr.tmps, params := params.toList, assign, body, defers := s.next }) l
      match invokeA E h2 l.succ fv [.yield l] with
      | some (.enter g args) => match enterA E.P g args false with
        | some fr => some { fr, cs := { s.fr with todo := .inRange l :: k, defers := .collected s.next :: s.fr.defers } :: s.cs, h := h2, next := l.succ }
        | none => none
      | _ => none
    | some _ => none
  | none => none

/-- No operation of a region that is under way writes a result. -/
def freeIn (k : Nat) : List Oper → Bool
  | [] => true
  | o :: l => (match o.dst with
    | some d => !(Nat.beq d k)
    | none => true) && freeIn k l
def resFree (ops : List Oper) : List ResultVar → Bool
  | [] => true
  | r :: l => (match r with
    | .tmp k => freeIn k ops
    | .cell a _ => freeIn a ops) && resFree ops l
def drawTop (rs : List ResultVar) : List AItem → Bool
  | [] => true
  | x :: _ => match x with
    | .draw ops _ _ _ _ _ => resFree ops rs
    | .drawIn ops _ _ _ _ _ => resFree ops rs
    | _ => true
def stepA (E : Env) (s : St) : Option Out :=
  match s.fr.mode with
  | .run => match s.fr.todo with
    | [] => onA (leaveA E.base s none)
    | x :: k => match x with
      | .code c => match c with
        | .ret => onA (leaveA E.base s (some .ret))
        | .skip => some (.on { s with fr := { s.fr with todo := k } })
        | .label _ => some (.on { s with fr := { s.fr with todo := k } })
        | .seq a b => some (.on { s with fr := { s.fr with todo := .code a :: .code b :: k } })
        | .cond c a b => match evalA E.base s.fr.tmps c with
          | some (.bool true) => some (.on { s with fr := { s.fr with todo := .code a :: k } })
          | some (.bool false) => some (.on { s with fr := { s.fr with todo := .code b :: k } })
          | _ => none
        | .block id body => some (.on { s with fr := { s.fr with todo := .code body :: .inBlock id :: k } })
        | .loop body => some (.on { s with fr := { s.fr with todo := .code body :: .inLoop body :: k } })
        | .scope body => some (.on { s with fr := { s.fr with todo := .code body :: .inScope body :: k } })
        | .exit id => match exitA id k with
          | some k' => some (.on { s with fr := { s.fr with todo := k' } })
          | none => onA (leaveA E.base s (some (.exit id)))
        | .goto l => match gotoA l k with
          | some k' => some (.on { s with fr := { s.fr with todo := k' } })
          | none => onA (leaveA E.base s (some (.goto l)))
        | .region _ ops d => match d with
          | false => some (.on { s with fr := { s.fr with todo := .reg ops.toList ops.toList :: k } })
          | true => match planOf ops.toList with
            | some (bs, es) => some (.on { s with fr := { s.fr with todo := .draw ops.toList bs none es [] [] :: k } })
            | none => none
        | .rangeFunc f params assign body => onA (rangeA E s f params assign body k)
        | .refuse _ => none
      | .inBlock _ => some (.on { s with fr := { s.fr with todo := k } })
      | .inScope _ => some (.on { s with fr := { s.fr with todo := k } })
      | .inLoop body => some (.on { s with fr := { s.fr with todo := .code body :: .inLoop body :: k } })
      | .reg ops rest => match runOps E s.fr.n ops rest s.h s.next s.fr.tmps with
        | some (h, next, t, rest', r) => match r with
          | none => some (.on { s with fr := { s.fr with tmps := t, todo := k }, h, next })
          | some r => onA (applyA E { s with fr := { s.fr with tmps := t, todo := .reg ops rest' :: k }, h, next } r)
        | none => none
      | .draw ops bs last todo done als => match drawA E s.fr.n bs ops (smalls bs last todo ops 0) { h := s.h, next := s.next, t := s.fr.tmps, done, als } with
        | some d => match todo with
          | [] => some (.on { s with fr := { s.fr with tmps := d.t, todo := k }, h := d.h, next := d.next })
          | i :: rest => match nth i ops with
            | some o => match seesOk bs d.done ops i o with
              | true => match guardOk ops d.t o with
                | true => match opE E d.h d.next d.t o with
                  | some r => onA (applyA E { s with fr := { s.fr with tmps := d.t, todo := .drawIn ops bs i rest d.done d.als :: k }, h := d.h, next := d.next } r)
                  | none => none
                | false => match setDst s.fr.n d.t o.dst undefA with
                  | some t => some (.on { s with fr := { s.fr with tmps := t, todo := .draw ops bs (some i) rest d.done d.als :: k }, h := d.h, next := d.next })
                  | none => none
              | false => none
            | none => none
        | none => none
      | .drawIn _ _ _ _ _ _ => none
      | .inRange _ => none
      | .beginRound => match s.fr.roundOf with
        | some l => match loopAt E.base s.h l with
          | some lp => match lp.state with
            | .ready => some (.on { s with fr := { s.fr with todo := k }, h := s.h.set (.loop { lp with state := .busy }) l })
            | _ => none
          | _ => none
        | none => none
      | .endRange l => match loopAt E.base s.h l with
        | some lp => match lp.state with
          | .busy => none
          | _ => some (.on { s with fr := { s.fr with todo := (match lp.pending with | some j => .code j :: k | none => k) }, h := s.h.set (.loop { lp with state := .exhausted }) l })
        | _ => none
  | mode => match s.fr.defers with
    | .collected block :: ds => match deferredAt E.base s.h block with
      | some l => some (.on { s with fr := { s.fr with defers := l ++ ds }, h := s.h.set (.deferred none) block })
      | _ => none
    | .call f args :: ds => match invokeA E s.h s.next f args with
      | some (.enter g as) => match enterA E.P g as true with
        | some fr => some (.on { s with fr, cs := { s.fr with defers := ds } :: s.cs })
        | none => none
      | _ => none
    | [] => match mode with
      | .panicking ch => match s.cs with
        | c :: rest => some (.on { s with fr := raiseA c ch, cs := rest })
        | [] => none
      | _ => match E.P.funcs[s.fr.fn]? with
        | none => none
        | some fn => match (match drawTop fn.results.toList s.fr.todo with | false => none | true => resA E.P s.fr.tmps s.h fn.results.toList) with
          | some vs => match s.cs with
            | [] => some (.done (resV vs) s)
            | c :: rest => match s.fr.deferred with
              | true => match settleA c.mode with
                | some m => some (.on { s with fr := { c with mode := m }, cs := rest })
                | none => none
              | false => match finishA c (resV vs) with
                | some c' => some (.on { s with fr := c', cs := rest })
                | none => none
          | none => none

/-- At most so many steps; the state behind them. -/
def runA (E : Env) : Nat → St → Option Out
  | 0, s => some (.on s)
  | n + 1, s => match stepA E s with
    | some (.on s') => runA E n s'
    | r => r

end Go.Vm
end
section
namespace Go.Vm

/-! ### where a version of a group lies -/
structure Loc where
  blk : Nat
  off : Nat
  c0 : Nat
  lim : Nat
abbrev Sig := Pos → Nat → Option Loc

def Loc.addr (L : Loc) (c : Nat) : Addr := ⟨L.blk, L.off + (c - L.c0), none⟩

mutual
def RV (σ : Sig) : AV → Value → Prop
  | .bool b, v => v = .bool b
  | .int k n, v => v = .int k n
  | .str n, v => ∃ s, v = .string s ∧ encS s = n
  | .ptr g ve c, v => ∃ L, σ g ve = some L ∧ L.c0 ≤ c ∧ v = .pointer (some (L.addr c))
  | .nilptr, v => v = .pointer none
  | .slice g ve c n cap es, v => ∃ a cap', v = .slice (some a) n cap' ∧ n ≤ cap' ∧ (∀ k, cap = some k → cap' = k) ∧
      ∃ L, σ g ve = some L ∧ L.c0 ≤ c ∧ ((n = 0 ∧ cap' = 0) ∨ (a = L.addr c ∧ L.off + (c - L.c0) + cap' * es ≤ L.lim))
  | .nilslice, v => v = .slice none 0 0
  | .map g, v => ∃ L, σ g 0 = some L ∧ v = .map (some L.blk)
  | .nilmap, v => v = .map none
  | .func fn a b, v => ∃ x y, v = .func fn (List.toArray x) (List.toArray y) ∧ (match fn with | .func _ => True | .method _ => True | _ => False) ∧ RVs σ a x ∧ RVs σ b y
  | .yield g, v => ∃ L, σ g 0 = some L ∧ v = .func (.yield L.blk) #[] #[]
  | .nilfunc, v => v = .nilFunc
  | .iface t a, v => ∃ x, v = .iface t x ∧ RV σ a x
  | .niliface, v => v = .nilIface
  | .agg cs, v => ∃ l, v = .agg (List.toArray l) ∧ RVs σ cs l
  | .tuple cs, v => ∃ l, v = .tuple (List.toArray l) ∧ RVs σ cs l
def RVs (σ : Sig) : List AV → List Value → Prop
  | [], l => l = []
  | a :: as, l => ∃ v vs, l = v :: vs ∧ RV σ a v ∧ RVs σ as vs
end

def Sub (σ σ' : Sig) : Prop := ∀ g v L, σ g v = some L → σ' g v = some L
theorem Sub.refl (σ : Sig) : Sub σ σ := fun _ _ _ h => h
theorem Sub.trans {a b c : Sig} (h : Sub a b) (k : Sub b c) : Sub a c := fun g v L e => k g v L (h g v L e)

mutual
theorem RV.mono {σ σ' : Sig} (h : Sub σ σ') : ∀ (a : AV) (v : Value), RV σ a v → RV σ' a v
  | .bool _, _, r => by simpa only [RV] using r
  | .int _ _, _, r => by simpa only [RV] using r
  | .str _, _, r => by simpa only [RV] using r
  | .ptr _ _ _, _, r => by
    simp only [RV] at r ⊢
    obtain ⟨L, hL, hr⟩ := r
    exact ⟨L, h _ _ _ hL, hr⟩
  | .nilptr, _, r => by simpa only [RV] using r
  | .slice _ _ _ _ _ _, _, r => by
    simp only [RV] at r ⊢
    obtain ⟨a, cap', h1, h2, h3, L, hL, hr⟩ := r
    exact ⟨a, cap', h1, h2, h3, L, h _ _ _ hL, hr⟩
  | .nilslice, _, r => by simpa only [RV] using r
  | .map _, _, r => by
    simp only [RV] at r ⊢
    obtain ⟨L, hL, hr⟩ := r
    exact ⟨L, h _ _ _ hL, hr⟩
  | .nilmap, _, r => by simpa only [RV] using r
  | .func _ a b, _, r => by
    simp only [RV] at r ⊢
    obtain ⟨x, y, h1, h2, h3, h4⟩ := r
    exact ⟨x, y, h1, h2, RVs.mono h a x h3, RVs.mono h b y h4⟩
  | .yield _, _, r => by
    simp only [RV] at r ⊢
    obtain ⟨L, hL, hr⟩ := r
    exact ⟨L, h _ _ _ hL, hr⟩
  | .nilfunc, _, r => by simpa only [RV] using r
  | .iface _ a, _, r => by
    simp only [RV] at r ⊢
    obtain ⟨x, h1, h2⟩ := r
    exact ⟨x, h1, RV.mono h a x h2⟩
  | .niliface, _, r => by simpa only [RV] using r
  | .agg cs, _, r => by
    simp only [RV] at r ⊢
    obtain ⟨l, h1, h2⟩ := r
    exact ⟨l, h1, RVs.mono h cs l h2⟩
  | .tuple cs, _, r => by
    simp only [RV] at r ⊢
    obtain ⟨l, h1, h2⟩ := r
    exact ⟨l, h1, RVs.mono h cs l h2⟩
theorem RVs.mono {σ σ' : Sig} (h : Sub σ σ') : ∀ (a : List AV) (v : List Value), RVs σ a v → RVs σ' a v
  | [], _, r => by simpa only [RVs] using r
  | a :: as, _, r => by
    simp only [RVs] at r ⊢
    obtain ⟨v, vs, h1, h2, h3⟩ := r
    exact ⟨v, vs, h1, RV.mono h a v h2, RVs.mono h as vs h3⟩
end

/-! ### lists of related values -/
theorem RVs.nil {σ : Sig} : RVs σ [] [] := by simp only [RVs]
theorem RVs.cons {σ : Sig} {a : AV} {as : List AV} {v : Value} {vs : List Value} (h : RV σ a v) (k : RVs σ as vs) : RVs σ (a :: as) (v :: vs) := by
  simp only [RVs]; exact ⟨v, vs, rfl, h, k⟩
theorem RVs.nil_inv {σ : Sig} {l : List Value} (h : RVs σ [] l) : l = [] := by simpa only [RVs] using h
theorem RVs.cons_inv {σ : Sig} {a : AV} {as : List AV} {l : List Value} (h : RVs σ (a :: as) l) : ∃ v vs, l = v :: vs ∧ RV σ a v ∧ RVs σ as vs := by
  simpa only [RVs] using h
theorem RVs.length {σ : Sig} : ∀ {a : List AV} {l : List Value}, RVs σ a l → a.length = l.length
  | [], l, h => by rw [RVs.nil_inv h]; rfl
  | _ :: as, l, h => by
    obtain ⟨v, vs, rfl, _, h2⟩ := RVs.cons_inv h
    simp only [List.length_cons, RVs.length h2]
theorem RVs.append {σ : Sig} : ∀ {a : List AV} {l : List Value} {b : List AV} {m : List Value}, RVs σ a l → RVs σ b m → RVs σ (a ++ b) (l ++ m)
  | [], l, b, m, h, k => by rw [RVs.nil_inv h]; exact k
  | _ :: as, l, b, m, h, k => by
    obtain ⟨v, vs, rfl, h1, h2⟩ := RVs.cons_inv h
    exact RVs.cons h1 (RVs.append h2 k)
theorem RVs.get {σ : Sig} : ∀ {a : List AV} {l : List Value} (i : Nat) (x : AV), RVs σ a l → a[i]? = some x → ∃ v, l[i]? = some v ∧ RV σ x v
  | [], l, i, x, h, e => by simp at e
  | a :: as, l, 0, x, h, e => by
    obtain ⟨v, vs, rfl, h1, h2⟩ := RVs.cons_inv h
    simp at e; subst e
    exact ⟨v, rfl, h1⟩
  | a :: as, l, i + 1, x, h, e => by
    obtain ⟨v, vs, rfl, h1, h2⟩ := RVs.cons_inv h
    simp at e
    obtain ⟨u, hu, hr⟩ := RVs.get i x h2 e
    exact ⟨u, by simpa using hu, hr⟩
theorem RVs.get' {σ : Sig} : ∀ {a : List AV} {l : List Value} (i : Nat) (v : Value), RVs σ a l → l[i]? = some v → ∃ x, a[i]? = some x ∧ RV σ x v
  | [], l, i, v, h, e => by rw [RVs.nil_inv h] at e; simp at e
  | a :: as, l, 0, v, h, e => by
    obtain ⟨u, vs, rfl, h1, h2⟩ := RVs.cons_inv h
    simp at e; subst e
    exact ⟨a, rfl, h1⟩
  | a :: as, l, i + 1, v, h, e => by
    obtain ⟨u, vs, rfl, h1, h2⟩ := RVs.cons_inv h
    simp at e
    obtain ⟨x, hx, hr⟩ := RVs.get' i v h2 e
    exact ⟨x, by simpa using hx, hr⟩
theorem RVs.take {σ : Sig} : ∀ (n : Nat) {a : List AV} {l : List Value}, RVs σ a l → RVs σ (a.take n) (l.take n)
  | 0, _, _, _ => by simpa using RVs.nil
  | n + 1, [], l, h => by rw [RVs.nil_inv h]; simpa using RVs.nil
  | n + 1, a :: as, l, h => by
    obtain ⟨v, vs, rfl, h1, h2⟩ := RVs.cons_inv h
    simpa using RVs.cons h1 (RVs.take n h2)
theorem RVs.drop {σ : Sig} : ∀ (n : Nat) {a : List AV} {l : List Value}, RVs σ a l → RVs σ (a.drop n) (l.drop n)
  | 0, _, _, h => by simpa using h
  | n + 1, [], l, h => by rw [RVs.nil_inv h]; simpa using RVs.nil
  | n + 1, a :: as, l, h => by
    obtain ⟨v, vs, rfl, h1, h2⟩ := RVs.cons_inv h
    simpa using RVs.drop n h2

/-! ### small lists -/
theorem len_eq {α : Type} : ∀ l : List α, len l = l.length
  | [] => rfl
  | _ :: l => by show Nat.add (len l) 1 = _; rw [len_eq l]; rfl
theorem nth_eq {α : Type} : ∀ (n : Nat) (l : List α), nth n l = l[n]?
  | n, [] => by simp [nth]
  | 0, x :: _ => rfl
  | n + 1, _ :: l => by simp only [nth]; rw [nth_eq n l]; simp
theorem dropN_eq {α : Type} : ∀ (n : Nat) (l : List α), dropN n l = l.drop n
  | 0, _ => by simp [dropN]
  | n + 1, [] => by simp [dropN]
  | n + 1, _ :: l => by simp only [dropN]; rw [dropN_eq n l]; simp
theorem takeN_eq {α : Type} : ∀ (n : Nat) (l k : List α), takeN n l = some k → n ≤ l.length ∧ k = l.take n
  | 0, l, k, h => by simp only [takeN, Option.some.injEq] at h; subst h; simp
  | n + 1, [], k, h => by simp [takeN] at h
  | n + 1, x :: l, k, h => by
    simp only [takeN] at h
    cases e : takeN n l with
    | none => rw [e] at h; cases h
    | some k' =>
      rw [e] at h; cases h
      obtain ⟨h1, h2⟩ := takeN_eq n l k' e
      subst h2
      exact ⟨by simp; omega, by simp⟩

end Go.Vm
end
section
namespace Go.Vm

/-! ### blocks of a world -/
def setB (w : World) (b : Nat) (o : Go.Obj) : World := { w with heap := w.heap.setIfInBounds b o }
theorem setB_size (w : World) (b : Nat) (o : Go.Obj) : (setB w b o).heap.size = w.heap.size := by simp [setB]
theorem setB_get (w : World) (b : Nat) (o : Go.Obj) (k : Nat) : (setB w b o).heap[k]? = if b = k ∧ b < w.heap.size then some o else w.heap[k]? := by
  simp only [setB, Array.getElem?_setIfInBounds]
  by_cases h : b = k
  · subst h
    by_cases hb : b < w.heap.size
    · simp [hb]
    · simp [hb, Array.getElem?_eq_none (Nat.le_of_not_lt hb)]
  · simp [h]
theorem setB_setB (w : World) (b : Nat) (o p : Go.Obj) : setB (setB w b o) b p = setB w b p := by
  simp only [setB]
  congr 1
  apply Array.ext_getElem?
  intro i
  simp only [Array.getElem?_setIfInBounds, Array.size_setIfInBounds]
  by_cases h : b = i <;> simp [h]
theorem setB_self (w : World) (b : Nat) (o : Go.Obj) (h : w.heap[b]? = some o) : setB w b o = w := by
  have : w.heap.setIfInBounds b o = w.heap := by
    apply Array.ext_getElem?
    intro i
    rw [Array.getElem?_setIfInBounds]
    by_cases hi : b = i
    · subst hi; simp [(Array.getElem?_eq_some_iff.1 h).1]; exact (Array.getElem?_eq_some_iff.1 h).2.symm
    · simp [hi]
  simp only [setB, this]
theorem setCell_eq (w : World) (b off : Nat) (v : Value) (c : Array Value) (e : TypeId) (fz : Nat × Nat) (h : w.heap[b]? = some (.cells c e fz)) :
    w.setCell ⟨b, off, none⟩ v = setB w b (.cells (c.setIfInBounds off v) e fz) := by
  simp only [World.setCell, setB]
  congr 1
  apply Array.ext_getElem?
  intro i
  have hb := (Array.getElem?_eq_some_iff.1 h).1
  rw [Array.getElem?_modify, Array.getElem?_setIfInBounds]
  by_cases hi : b = i
  · subst hi; simp [hb, (Array.getElem?_eq_some_iff.1 h).2]
  · simp [hi]
theorem cell_of (w : World) (b off : Nat) (c : Array Value) (e : TypeId) (fz : Nat × Nat) (h : w.heap[b]? = some (.cells c e fz)) : w.cell? ⟨b, off, none⟩ = c[off]? := by
  simp [World.cell?, h]
theorem frozen_of (w : World) (b off : Nat) (c : Array Value) (e : TypeId) (fz : Nat × Nat) (h : w.heap[b]? = some (.cells c e fz)) : w.frozen? ⟨b, off, none⟩ = (decide (fz.1 ≤ off) && decide (off < fz.2)) := by
  obtain ⟨lo, hi⟩ := fz
  simp [World.frozen?, h]
theorem addr_add (b off n : Nat) : (⟨b, off, none⟩ : Addr).add n = ⟨b, off + n, none⟩ := by
  unfold Addr.add
  split
  · rename_i h; subst h; rfl
  · rfl

/-- Storing values of one cell each into a row. -/
theorem run_storeCells' (P : Program) (b off : Nat) (e : TypeId) (fz : Nat × Nat) : ∀ (vs : List Value) (i : Nat) (c : Array Value) (w : World),
    w.heap[b]? = some (.cells c e fz) → off + i + vs.length ≤ c.size → (∀ v ∈ vs, v.oneCell' = true) →
    (∀ d, off + i ≤ d → d < off + i + vs.length → ¬ (fz.1 ≤ d ∧ d < fz.2)) →
    ∃ c', (storeCells ⟨b, off, none⟩ vs i).run P w = .ok () (setB w b (.cells c' e fz)) ∧ c'.size = c.size ∧
      ∀ d, c'[d]? = if off + i ≤ d ∧ d < off + i + vs.length then vs[d - (off + i)]? else c[d]?
  | [], i, c, w, h, _, _, _ => by
    have hs := setB_self w b _ h
    exact ⟨c, hs.symm ▸ rfl, rfl, fun d => by rw [if_neg (by simp only [List.length_nil]; omega)]⟩
  | v :: vs, i, c, w, h, hs, h1, hf => by
    have hlen : (v :: vs).length = vs.length + 1 := rfl
    have hlt : off + i < c.size := by omega
    have hc : w.cell? ⟨b, off + i, none⟩ = some c[off + i] := by rw [cell_of w b _ c e fz h]; simp [hlt]
    have hfr : w.frozen? ⟨b, off + i, none⟩ = false := by
      rw [frozen_of w b _ c e fz h]
      have := hf (off + i) (Nat.le_refl _) (by omega)
      by_cases h1 : fz.1 ≤ off + i
      · have h2 : ¬ off + i < fz.2 := fun h2 => this ⟨h1, h2⟩
        simp [h2]
      · simp [h1]
    have hst := run_store P w ⟨b, off + i, none⟩ v .plain (h1 v (by simp))
    rw [hc] at hst
    simp only [hfr] at hst
    have hset := setCell_eq w b (off + i) v c e fz h
    have hw : (setB w b (.cells (c.setIfInBounds (off + i) v) e fz)).heap[b]? = some (.cells (c.setIfInBounds (off + i) v) e fz) := by
      rw [setB_get]; simp [(Array.getElem?_eq_some_iff.1 h).1]
    obtain ⟨c', hr, hs', hc'⟩ := run_storeCells' P b off e fz vs (i + 1) (c.setIfInBounds (off + i) v) _ hw (by simp; omega) (fun u hu => h1 u (by simp [hu]))
      (fun d hd hd2 => hf d (by omega) (by omega))
    refine ⟨c', ?_, by simpa using hs', ?_⟩
    · unfold storeCells
      rw [Sem.run_bind, addr_add, hst]
      simp only [Bool.false_eq_true, ↓reduceIte, Result.andThen_ok, hset]
      rw [hr, setB_setB]
    · intro d
      rw [hc' d]
      by_cases hd : d = off + i
      · subst hd
        rw [if_neg (by omega), if_pos (by omega)]
        simp [hlt]
      · by_cases hin : off + (i + 1) ≤ d ∧ d < off + (i + 1) + vs.length
        · rw [if_pos hin, if_pos (by omega)]
          have : d - (off + i) = (d - (off + (i + 1))) + 1 := by omega
          rw [this]; simp
        · rw [if_neg hin, if_neg (by omega)]
          rw [Array.getElem?_setIfInBounds, if_neg (by omega)]

end Go.Vm
end
section
namespace Go.Vm

/-! ### what lies in memory -/
def TR (σ : Sig) (t : T AV) (tmps : Array Value) (ok : Nat → Prop) : Prop := ∀ k, ok k → RV σ (tget t k) (tmps.getD k undef)
def MR (σ : Sig) : List (AV × AV) → List MapEntry → Prop
  | [], l => l = []
  | (k, v) :: es, l => ∃ e l', l = e :: l' ∧ RV σ k e.key ∧ RV σ v e.val ∧ MR σ es l'
def lsOf : LS → LoopState
  | .ready => .ready
  | .busy => .busy
  | .done => .done
  | .exhausted => .exhausted
def fnOk : Fn → Prop
  | .func _ => True
  | .method _ => True
  | _ => False
def DR (σ : Sig) : ADef → Deferred → Prop
  | .call f args, d => ∃ fn a b x y z, f = .func fn a b ∧ fnOk fn ∧ d.target = .fn fn (List.toArray y) ∧ d.args = List.toArray (x ++ z) ∧ RVs σ a x ∧ RVs σ b y ∧ RVs σ args z
  | .collected g, d => ∃ L, σ g 0 = some L ∧ d.target = .collected L.blk ∧ d.args = #[]
def DsR (σ : Sig) : List ADef → List Deferred → Prop
  | [], l => l = []
  | a :: as, l => ∃ d l', l = d :: l' ∧ DR σ a d ∧ DsR σ as l'
structure LR (σ : Sig) (lp : ALoop) (l : Loop) : Prop where
  state : l.state = lsOf lp.state
  pending : l.pending = lp.pending
  fn : l.fn = lp.fn
  size : l.tmps.size = lp.n
  tmps : TR σ lp.tmps l.tmps (fun _ => True)
  params : l.params.toList = lp.params
  assign : l.assign = lp.assign
  body : l.body = lp.body
  defers : ∃ L, σ lp.defers 0 = some L ∧ l.defers = L.blk
def CellsOK (σ : Sig) (t : T (AV × Nat)) (v : Nat) (L : Loc) (c : Array Value) (e : Nat) : Prop :=
  ∀ d x o, L.c0 ≤ d → d < e → t.at d = some (x, o) → o ≤ v → ∃ u, c[L.off + (d - L.c0)]? = some u ∧ RV σ x u
/-- What lies at a block, seen as version v of a group. -/
def OR (σ : Sig) (b : Option Go.Obj) (v : Nat) (L : Loc) : Obj → Prop
  | .row cs elem => v = 0 ∧ L.off = 0 ∧ L.c0 = 0 ∧ ∃ c, b = some (.cells c elem (0, 0)) ∧ c.size = L.lim ∧ RVs σ cs c.toList
  | .arr t latest ends frz elem => ∃ e c fz, endOf latest v ends = some e ∧ b = some (.cells c elem fz) ∧ c.size = L.lim ∧ (L.c0 ≤ e → L.off + (e - L.c0) ≤ L.lim) ∧
      CellsOK σ t v L c e ∧ (frz = 0 → fz = (0, 0)) ∧ ∀ d, frz ≤ d → L.c0 ≤ d → L.off + (d - L.c0) < L.lim → fz.2 ≤ L.off + (d - L.c0)
  | .map es => v = 0 ∧ ∃ l k, b = some (.map l k) ∧ MR σ es l.toList ∧ MapKept.Stamped l k ∧ l.toList.map (·.born) = List.range l.size ∧ k = l.size
  | .loop lp => v = 0 ∧ ∃ l, b = some (.loop l) ∧ LR σ lp l
  | .deferred none => v = 0 ∧ b = some (.deferred none)
  | .deferred (some ds) => v = 0 ∧ ∃ l, b = some (.deferred (some l)) ∧ DsR σ ds l
  | .iter m seen since => v = 0 ∧ L.off = 0 ∧ L.c0 = 0 ∧ ∃ Lm sn, σ m 0 = some Lm ∧ b = some (.mapIter (some Lm.blk) since sn since) ∧ sn.toList = seen

structure WR (W0 : World) (base : Nat) (σ : Sig) (h : T Obj) (next : Pos) (w : World) : Prop where
  os : w.os = W0.os
  tape : w.tape = W0.tape
  output : w.output = W0.output
  size : W0.heap.size ≤ w.heap.size
  old : ∀ k, k < W0.heap.size → w.heap[k]? = W0.heap[k]?
  nextp : base < next.val
  loc : ∀ g v L, σ g v = some L → L.blk < w.heap.size ∧ (base < g.val → W0.heap.size ≤ L.blk) ∧ g.val < next.val
  inj : ∀ g v L g' v' L', σ g v = some L → σ g' v' = some L' → L.blk = L'.blk → g = g' ∧ L.off + L'.c0 = L'.off + L.c0
  obj : ∀ g v L o, σ g v = some L → h.get g = some o → OR σ (w.heap[L.blk]?) v L o

/-! ### more places known -/
theorem TR.mono {σ σ' : Sig} (hs : Sub σ σ') {t : T AV} {tmps : Array Value} {ok : Nat → Prop} (h : TR σ t tmps ok) : TR σ' t tmps ok :=
  fun k hk => RV.mono hs _ _ (h k hk)
theorem TR.weak {σ : Sig} {t : T AV} {tmps : Array Value} {ok ok' : Nat → Prop} (h : TR σ t tmps ok) (hi : ∀ k, ok' k → ok k) : TR σ t tmps ok' :=
  fun k hk => h k (hi k hk)
theorem MR.mono {σ σ' : Sig} (hs : Sub σ σ') : ∀ {es : List (AV × AV)} {l : List MapEntry}, MR σ es l → MR σ' es l
  | [], _, h => h
  | (_, _) :: _, _, ⟨e, l', h1, h2, h3, h4⟩ => ⟨e, l', h1, RV.mono hs _ _ h2, RV.mono hs _ _ h3, MR.mono hs h4⟩
theorem DR.mono {σ σ' : Sig} (hs : Sub σ σ') : ∀ {a : ADef} {d : Deferred}, DR σ a d → DR σ' a d
  | .call _ _, _, ⟨fn, a, b, x, y, z, h1, h2, h3, h4, h5, h6, h7⟩ => ⟨fn, a, b, x, y, z, h1, h2, h3, h4, RVs.mono hs _ _ h5, RVs.mono hs _ _ h6, RVs.mono hs _ _ h7⟩
  | .collected _, _, ⟨L, h1, h2⟩ => ⟨L, hs _ _ _ h1, h2⟩
theorem DsR.mono {σ σ' : Sig} (hs : Sub σ σ') : ∀ {a : List ADef} {d : List Deferred}, DsR σ a d → DsR σ' a d
  | [], _, h => h
  | _ :: _, _, ⟨d, l', h1, h2, h3⟩ => ⟨d, l', h1, h2.mono hs, DsR.mono hs h3⟩
theorem LR.mono {σ σ' : Sig} (hs : Sub σ σ') {lp : ALoop} {l : Loop} (h : LR σ lp l) : LR σ' lp l :=
  ⟨h.state, h.pending, h.fn, h.size, h.tmps.mono hs, h.params, h.assign, h.body, let ⟨L, h1, h2⟩ := h.defers; ⟨L, hs _ _ _ h1, h2⟩⟩
theorem CellsOK.mono {σ σ' : Sig} (hs : Sub σ σ') {t : T (AV × Nat)} {v : Nat} {L : Loc} {c : Array Value} {e : Nat} (h : CellsOK σ t v L c e) : CellsOK σ' t v L c e :=
  fun d x o h1 h2 h3 h4 => let ⟨u, h5, h6⟩ := h d x o h1 h2 h3 h4; ⟨u, h5, RV.mono hs _ _ h6⟩
theorem OR.mono {σ σ' : Sig} (hs : Sub σ σ') {b : Option Go.Obj} {v : Nat} {L : Loc} : ∀ {o : Obj}, OR σ b v L o → OR σ' b v L o
  | .row _ _, ⟨h1, h2, h3, c, h4, h5, h6⟩ => ⟨h1, h2, h3, c, h4, h5, RVs.mono hs _ _ h6⟩
  | .arr _ _ _ _ _, ⟨e, c, fz, h1, h2, h3, h4, h5, h6⟩ => ⟨e, c, fz, h1, h2, h3, h4, h5.mono hs, h6⟩
  | .map _, ⟨h0, l, k, h1, h2, h3⟩ => ⟨h0, l, k, h1, h2.mono hs, h3⟩
  | .loop _, ⟨h0, l, h1, h2⟩ => ⟨h0, l, h1, h2.mono hs⟩
  | .deferred none, h => h
  | .deferred (some _), ⟨h0, l, h1, h2⟩ => ⟨h0, l, h1, h2.mono hs⟩
  | .iter _ _ _, ⟨h0, h1, h2, Lm, sn, h3, h4⟩ => ⟨h0, h1, h2, Lm, sn, hs _ _ _ h3, h4⟩

/-! ### the world as it grows -/
/-- What turns: places that get known are new groups, or new versions of known ones. -/
def New (σ σ' : Sig) (next : Pos) (A : List Pos) : Prop := ∀ g, (∀ v, σ g v = none) → g.val < next.val → g ∉ A → ∀ v, σ' g v = none
theorem New.refl (σ : Sig) (next : Pos) (A : List Pos) : New σ σ next A := fun _ h _ _ => h
theorem New.trans {a b c : Sig} {n m : Pos} {A : List Pos} (h : New a b n A) (k : New b c m A) (hn : n.val ≤ m.val) : New a c n A :=
  fun g hg hlt hA => k g (h g hg hlt hA) (Nat.lt_of_lt_of_le hlt hn) hA

/-- A group gets a place. -/
def put (σ : Sig) (g : Pos) (v : Nat) (L : Loc) : Sig := fun g' v' => if g = g' ∧ v = v' then some L else σ g' v'
theorem put_same (σ : Sig) (g : Pos) (v : Nat) (L : Loc) : put σ g v L g v = some L := by simp [put]
theorem put_other (σ : Sig) (g : Pos) (v : Nat) (L : Loc) (g' : Pos) (v' : Nat) (h : g ≠ g') : put σ g v L g' v' = σ g' v' := by simp [put, h]
theorem put_sub (σ : Sig) (g : Pos) (v : Nat) (L : Loc) (h : σ g v = none) : Sub σ (put σ g v L) := by
  intro g' v' L' e
  unfold put
  split
  · rename_i hh; obtain ⟨rfl, rfl⟩ := hh; rw [h] at e; cases e
  · exact e

theorem WR.fresh {W0 : World} {base : Nat} {σ : Sig} {h : T Obj} {next : Pos} {w : World} (H : WR W0 base σ h next w) : ∀ v, σ next v = none := by
  intro v
  cases e : σ next v with
  | none => rfl
  | some L => exact absurd (H.loc _ _ _ e).2.2 (Nat.lt_irrefl _)

/-- A new block for a group that had no place. -/
theorem WR.alloc {W0 : World} {base : Nat} {σ : Sig} {h : T Obj} {next : Pos} {w : World} (H : WR W0 base σ h next w) {g : Pos} (hg : ∀ v, σ g v = none) (hgb : base < g.val)
    (next' : Pos) (hn : next.val ≤ next'.val) (hgn : g.val < next'.val) (O : Go.Obj) (L : Loc) (hL : L.blk = w.heap.size) (h' : T Obj) (hh : ∀ k, k ≠ g → h'.get k = h.get k)
    (ho : ∀ o, h'.get g = some o → OR (put σ g 0 L) (some O) 0 L o) :
    WR W0 base (put σ g 0 L) h' next' (w.alloc O) := by
  have hsub := put_sub σ g 0 L (hg 0)
  have inv : ∀ g' v' L', put σ g 0 L g' v' = some L' → (g' = g ∧ v' = 0 ∧ L' = L) ∨ (g' ≠ g ∧ σ g' v' = some L') := by
    intro g' v' L' e
    unfold put at e
    split at e
    · rename_i hh; obtain ⟨rfl, rfl⟩ := hh; cases e; exact .inl ⟨rfl, rfl, rfl⟩
    · refine .inr ⟨?_, e⟩
      intro hgg; subst hgg; rw [hg] at e; cases e
  have hold : ∀ k, k < w.heap.size → (w.alloc O).heap[k]? = w.heap[k]? := by
    intro k hk
    simp only [World.alloc, Array.getElem?_push]
    rw [if_neg (by omega)]
  refine ⟨H.os, H.tape, H.output, by have := H.size; simp; omega, fun k hk => ?_, Nat.lt_of_lt_of_le H.nextp hn, ?_, ?_, ?_⟩
  · rw [hold k (by have := H.size; omega)]; exact H.old k hk
  · intro g' v' L' e
    rcases inv g' v' L' e with ⟨rfl, rfl, rfl⟩ | ⟨_, e⟩
    · refine ⟨by simp [hL], fun _ => by rw [hL]; exact H.size, hgn⟩
    · obtain ⟨h1, h2, h3⟩ := H.loc _ _ _ e
      exact ⟨by simp; omega, h2, by omega⟩
  · intro g1 v1 L1 g2 v2 L2 e1 e2 hb
    rcases inv _ _ _ e1 with ⟨rfl, rfl, rfl⟩ | ⟨_, f1⟩ <;> rcases inv _ _ _ e2 with ⟨rfl, rfl, rfl⟩ | ⟨_, f2⟩
    · exact ⟨rfl, rfl⟩
    · have := (H.loc _ _ _ f2).1; omega
    · have := (H.loc _ _ _ f1).1; omega
    · exact H.inj _ _ _ _ _ _ f1 f2 hb
  · intro g' v' L' o e eo
    rcases inv _ _ _ e with ⟨rfl, rfl, rfl⟩ | ⟨hne, e⟩
    · have : (w.alloc O).heap[L'.blk]? = some O := by rw [hL]; exact heap_alloc_new w O
      rw [this]; exact ho o eo
    · rw [hh _ hne] at eo
      rw [hold _ (H.loc _ _ _ e).1]
      exact (H.obj _ _ _ _ e eo).mono hsub

/-- A draw turns nothing here. -/
theorem WR.drew {W0 : World} {base : Nat} {σ : Sig} {h : T Obj} {next : Pos} {w : World} (H : WR W0 base σ h next w) : WR W0 base σ h next w.drew :=
  ⟨H.os, H.tape, H.output, H.size, H.old, H.nextp, H.loc, H.inj, H.obj⟩

/-- A block of a known group turns, and what is said of the group. -/
theorem WR.turn {W0 : World} {base : Nat} {σ : Sig} {h : T Obj} {next : Pos} {w : World} (H : WR W0 base σ h next w) {g : Pos} {v : Nat} {L : Loc} (hL : σ g v = some L) (hgb : base < g.val)
    (O : Go.Obj) (o : Obj) (ho : ∀ v' L', σ g v' = some L' → OR σ (if L.blk = L'.blk then some O else w.heap[L'.blk]?) v' L' o) :
    WR W0 base σ (h.set o g) next (setB w L.blk O) := by
  have hb := H.loc _ _ _ hL
  refine ⟨H.os, H.tape, H.output, by rw [setB_size]; exact H.size, fun k hk => ?_, H.nextp, ?_, H.inj, ?_⟩
  · rw [setB_get, if_neg (by have := hb.2.1 hgb; omega)]; exact H.old k hk
  · intro g' v' L' e; rw [setB_size]; exact H.loc _ _ _ e
  · intro g' v' L' o' e eo
    rw [T.get_set] at eo
    by_cases hg : g = g'
    · subst hg
      rw [if_pos rfl] at eo
      cases eo
      have := ho v' L' e
      rw [setB_get]
      by_cases hbb : L.blk = L'.blk
      · rw [if_pos hbb] at this
        rw [if_pos ⟨hbb, hb.1⟩]; exact this
      · rw [if_neg hbb] at this
        rw [if_neg (fun hc => hbb hc.1)]; exact this
    · rw [if_neg hg] at eo
      have hne : L.blk ≠ L'.blk := fun hbb => hg (H.inj _ _ _ _ _ _ hL e hbb).1
      rw [setB_get, if_neg (fun hc => hne hc.1)]
      exact H.obj _ _ _ _ e eo

end Go.Vm
end
section
namespace Go.Vm

theorem RVs.of_get {σ : Sig} : ∀ {a : List AV} {l : List Value}, a.length = l.length → (∀ (i : Nat) (x : AV) (v : Value), a[i]? = some x → l[i]? = some v → RV σ x v) → RVs σ a l
  | [], [], _, _ => RVs.nil
  | [], _ :: _, h, _ => by simp at h
  | _ :: _, [], h, _ => by simp at h
  | a :: as, v :: vs, h, k => RVs.cons (k 0 a v rfl rfl) (RVs.of_get (by simpa using h) (fun i x u h1 h2 => k (i + 1) x u (by simpa using h1) (by simpa using h2)))

def flatA : AV → Bool
  | .agg _ => false
  | .tuple _ => false
  | _ => true
theorem flatL_cons (x : AV) (l : List AV) (h : flatL (x :: l) = true) : flatA x = true ∧ flatL l = true := by
  cases x <;> simp_all [flatL, flatA]
theorem RV.one {σ : Sig} {x : AV} {v : Value} (h : RV σ x v) (hx : flatA x = true) : v.oneCell' = true := by
  cases x <;> simp only [RV, flatA, Bool.false_eq_true] at h hx
  all_goals first
    | (subst h; rfl)
    | (obtain ⟨s, rfl, _⟩ := h; rfl)
    | (obtain ⟨L, _, _, rfl⟩ := h; rfl)
    | (obtain ⟨a, c, rfl, _⟩ := h; rfl)
    | (obtain ⟨L, _, rfl⟩ := h; rfl)
    | (obtain ⟨x, y, rfl, _⟩ := h; rfl)
theorem RVs.one {σ : Sig} : ∀ {xs : List AV} {vs : List Value}, RVs σ xs vs → flatL xs = true → ∀ v ∈ vs, v.oneCell' = true
  | [], _, h, _, v, hv => by rw [RVs.nil_inv h] at hv; cases hv
  | x :: xs, _, h, hf, v, hv => by
    obtain ⟨u, us, rfl, h1, h2⟩ := RVs.cons_inv h
    obtain ⟨f1, f2⟩ := flatL_cons x xs hf
    cases hv with
    | head => exact h1.one f1
    | tail _ hm => exact RVs.one h2 f2 v hm

theorem putHead_eq : ∀ (l xs k : List AV), putHead l xs = some k → xs.length ≤ l.length ∧ k.length = l.length ∧ ∀ d, k[d]? = if d < xs.length then xs[d]? else l[d]?
  | l, [], k, h => by
    cases l <;> (simp only [putHead, Option.some.injEq] at h; subst h; simp)
  | [], _ :: _, k, h => by simp [putHead] at h
  | y :: l, x :: xs, k, h => by
    simp only [putHead] at h
    cases e : putHead l xs with
    | none => rw [e] at h; cases h
    | some k' =>
      rw [e] at h; cases h
      obtain ⟨h1, h2, h3⟩ := putHead_eq l xs k' e
      refine ⟨by simpa using h1, by simpa using h2, ?_⟩
      intro d
      cases d with
      | zero => simp
      | succ d => simp [h3 d]
theorem putAt_eq : ∀ (n : Nat) (l xs k : List AV), putAt n l xs = some k → n + xs.length ≤ l.length ∧ k.length = l.length ∧ ∀ d, k[d]? = if n ≤ d ∧ d < n + xs.length then xs[d - n]? else l[d]?
  | 0, l, xs, k, h => by
    have h' : putHead l xs = some k := by cases l <;> simpa [putAt] using h
    obtain ⟨h1, h2, h3⟩ := putHead_eq l xs k h'
    refine ⟨by omega, h2, ?_⟩
    intro d
    rw [h3 d]
    simp
  | n + 1, [], xs, k, h => by simp [putAt] at h
  | n + 1, y :: l, xs, k, h => by
    simp only [putAt] at h
    cases e : putAt n l xs with
    | none => rw [e] at h; cases h
    | some k' =>
      rw [e] at h; cases h
      obtain ⟨h1, h2, h3⟩ := putAt_eq n l xs k' e
      refine ⟨by simp; omega, by simpa using h2, ?_⟩
      intro d
      cases d with
      | zero => simp
      | succ d =>
        simp only [List.getElem?_cons_succ, h3 d]
        by_cases hd : n ≤ d ∧ d < n + xs.length
        · rw [if_pos hd, if_pos (by omega)]
          congr 1
          omega
        · rw [if_neg hd, if_neg (by omega)]

theorem getRow_vals {σ : Sig} {t : T (AV × Nat)} {v : Nat} {L : Loc} {cs : Array Value} {e : Nat} (H : CellsOK σ t v L cs e) : ∀ (n c : Nat) (l : List AV), L.c0 ≤ c → c + n ≤ e → getRow t v n c = some l →
    ∃ vals, RVs σ l vals ∧ vals.length = n ∧ ∀ j u, vals[j]? = some u → cs[L.off + (c - L.c0) + j]? = some u
  | 0, c, l, _, _, h => by
    simp only [getRow, Option.some.injEq] at h; subst h
    exact ⟨[], RVs.nil, rfl, by simp⟩
  | n + 1, c, l, h1, h2, h => by
    simp only [getRow] at h
    cases ea : t.at c with
    | none => rw [ea] at h; cases h
    | some xo =>
      obtain ⟨x, o⟩ := xo
      rw [ea] at h
      simp only at h
      cases eo : Nat.ble o v with
      | false => rw [eo] at h; cases h
      | true =>
        rw [eo] at h
        simp only at h
        cases er : getRow t v n (Nat.add c 1) with
        | none => rw [er] at h; cases h
        | some k =>
          rw [er] at h; cases h
          obtain ⟨u, hu1, hu2⟩ := H c x o h1 (by omega) ea (Nat.le_of_ble_eq_true eo)
          obtain ⟨vals, g1, g2, g3⟩ := getRow_vals H n (c + 1) k (by omega) (by omega) er
          refine ⟨u :: vals, RVs.cons hu2 g1, by simp [g2], ?_⟩
          intro j w hw
          cases j with
          | zero => simp at hw; subst hw; simpa using hu1
          | succ j =>
            have := g3 j w (by simpa using hw)
            have he : L.off + (c - L.c0) + (j + 1) = L.off + (c + 1 - L.c0) + j := by omega
            rw [he]; exact this

theorem Loc.addr_add (L : Loc) (c j : Nat) : (L.addr c).add j = ⟨L.blk, L.off + (c - L.c0) + j, none⟩ := by
  unfold Loc.addr; exact Go.Vm.addr_add _ _ _
theorem Loc.addr_plus (L : Loc) (c j : Nat) (h : L.c0 ≤ c) : (L.addr c).add j = L.addr (c + j) := by
  rw [Loc.addr_add]
  unfold Loc.addr
  have : L.off + (c - L.c0) + j = L.off + (c + j - L.c0) := by omega
  rw [this]

theorem getCells_sound {W0 : World} {base : Nat} {σ : Sig} {h : T Obj} {next : Pos} {w : World} (H : WR W0 base σ h next w) {g : Pos} {v : Nat} {L : Loc} (hL : σ g v = some L) {c n : Nat} {l : List AV}
    (hc : L.c0 ≤ c) (hg : getCells h g v c n = some l) :
    ∃ vals, RVs σ l vals ∧ vals.length = n ∧ (∀ j u, vals[j]? = some u → w.cell? ((L.addr c).add j) = some u) ∧ (0 < n → L.off + (c - L.c0) + n ≤ L.lim) ∧
      ∃ cs e fz, w.heap[L.blk]? = some (.cells cs e fz) := by
  unfold getCells at hg
  cases eo : h.get g with
  | none => rw [eo] at hg; cases hg
  | some o =>
    rw [eo] at hg
    have ho := H.obj _ _ _ _ hL eo
    cases o with
    | row cs elem =>
      simp only at hg
      obtain ⟨rfl, h2, h3, C, h4, h5, h6⟩ := ho
      simp only at hg
      obtain ⟨t1, t2⟩ := takeN_eq _ _ _ hg
      rw [dropN_eq] at t1 t2
      have hlen := RVs.length h6
      have hlen' : cs.length = C.size := by simpa using hlen
      refine ⟨(C.toList.drop c).take n, by rw [t2]; exact (h6.drop c).take n, ?_, ?_, ?_, C, elem, _, h4⟩
      · simp only [List.length_take, List.length_drop, Array.length_toList]
        simp only [List.length_drop] at t1
        omega
      · intro j u hu
        rw [Loc.addr_add, cell_of w _ _ C elem _ h4, h2, h3]
        rw [List.getElem?_take] at hu
        split at hu
        · simpa using hu
        · cases hu
      · intro hn
        simp only [List.length_drop] at t1
        rw [h2, h3, ← h5]
        omega
    | arr t latest ends frz elem =>
      simp only at hg
      obtain ⟨e, C, fz, h1, h2, h3, h4, h5, h6⟩ := ho
      rw [h1] at hg
      simp only at hg
      cases eb : Nat.ble (Nat.add c n) e with
      | false => rw [eb] at hg; cases hg
      | true =>
        rw [eb] at hg
        simp only at hg
        have hle : c + n ≤ e := Nat.le_of_ble_eq_true eb
        obtain ⟨vals, g1, g2, g3⟩ := getRow_vals h5 n c l hc hle hg
        refine ⟨vals, g1, g2, ?_, fun _ => by have := h4 (by omega); omega, C, elem, fz, h2⟩
        intro j u hu
        rw [Loc.addr_add, cell_of w _ _ C elem _ h2]
        exact g3 j u hu
    | map es => simp at hg
    | loop lp => simp at hg
    | deferred ds => simp at hg
    | iter m seen since => simp at hg

theorem setRow_at (v : Nat) : ∀ (l : List AV) (c : Nat) (t : T (AV × Nat)) (d : Nat), (setRow v l c t).at d = if c ≤ d ∧ d < c + l.length then (l[d - c]?).map (fun x => (x, v)) else t.at d
  | [], c, t, d => by simp only [setRow, List.length_nil]; rw [if_neg (by omega)]
  | x :: l, c, t, d => by
    simp only [setRow]
    rw [setRow_at v l (Nat.add c 1) (t.put c (x, v)) d, T.at_put]
    show (if c + 1 ≤ d ∧ d < c + 1 + l.length then _ else _) = _
    by_cases hd : d = c
    · subst hd
      rw [if_neg (by omega), if_pos rfl, if_pos (by simp)]
      simp
    · by_cases hin : c + 1 ≤ d ∧ d < c + 1 + l.length
      · rw [if_pos hin, if_pos (by simp; omega)]
        have : d - c = (d - (c + 1)) + 1 := by omega
        rw [this]; rfl
      · rw [if_neg hin, if_neg (by omega), if_neg (by simp; omega)]

theorem setCells_sound {W0 : World} {base : Nat} {σ : Sig} {h : T Obj} {next : Pos} {w : World} (P : Program) (H : WR W0 base σ h next w) {g : Pos} {v : Nat} {L : Loc} (hL : σ g v = some L) {c : Nat} {xs : List AV} {vals : List Value}
    {h' : T Obj} (hc : L.c0 ≤ c) (hx : RVs σ xs vals) (hg : setCells base h g v c xs = some h') :
    ∃ w', (storeCells (L.addr c) vals 0).run P w = .ok () w' ∧ WR W0 base σ h' next w' := by
  unfold setCells at hg
  cases hold : isOld base g with
  | true => rw [hold] at hg; cases hg
  | false =>
    rw [hold] at hg
    simp only at hg
    have hgb : base < g.val := by
      rcases Nat.lt_or_ge base g.val with hlt | hge
      · exact hlt
      · have := Nat.ble_eq_true_of_le hge
        unfold isOld at hold; rw [this] at hold; cases hold
    cases eo : h.get g with
    | none => rw [eo] at hg; cases hg
    | some o =>
      rw [eo] at hg
      simp only at hg
      cases hfl : flatL xs with
      | false => rw [hfl] at hg; cases hg
      | true =>
        rw [hfl] at hg
        simp only at hg
        have hone := RVs.one hx hfl
        have hlen := RVs.length hx
        cases es : setObj o v c xs with
        | none => rw [es] at hg; cases hg
        | some o' =>
          rw [es] at hg; cases hg
          have ho := H.obj _ _ _ _ hL eo
          have hblk := (H.loc _ _ _ hL).1
          cases o with
          | row cs elem =>
            obtain ⟨rfl, h2, h3, C, h4, h5, h6⟩ := ho
            simp only [setObj] at es
            cases ep : putAt c cs xs with
            | none => rw [ep] at es; cases es
            | some l =>
              rw [ep] at es; cases es
              obtain ⟨p1, p2, p3⟩ := putAt_eq c cs xs l ep
              have hlc : cs.length = C.size := by simpa using RVs.length h6
              obtain ⟨C', r1, r2, r3⟩ := run_storeCells' P L.blk (L.off + (c - L.c0)) elem (0, 0) vals 0 C w h4 (by rw [h2, h3]; omega) hone (by simp)
              refine ⟨_, r1, H.turn hL hgb _ _ ?_⟩
              intro v' L' hL'
              have ho' := H.obj _ _ _ _ hL' eo
              obtain ⟨rfl, q2, q3, _⟩ := ho'
              rw [hL] at hL'; cases hL'
              rw [if_pos rfl]
              refine ⟨rfl, h2, h3, C', rfl, by rw [r2, h5], ?_⟩
              refine RVs.of_get (by simp [p2, hlc, r2]) ?_
              intro i x u hi hu
              rw [p3 i] at hi
              rw [Array.getElem?_toList, r3 i] at hu
              have e1 : L.off + (c - L.c0) + 0 = c := by rw [h2, h3]; omega
              rw [e1] at hu
              by_cases hin : c ≤ i ∧ i < c + xs.length
              · rw [if_pos hin] at hi
                rw [if_pos (by omega)] at hu
                obtain ⟨u', hu', hr⟩ := hx.get _ _ hi
                rw [hu'] at hu; cases hu; exact hr
              · rw [if_neg hin] at hi
                rw [if_neg (by omega)] at hu
                obtain ⟨u', hu', hr⟩ := h6.get _ _ hi
                rw [Array.getElem?_toList, hu] at hu'; cases hu'; exact hr
          | arr t latest ends frz elem =>
            obtain ⟨e, C, fz, h1, h2, h3, h4, h5, h6, h7⟩ := ho
            simp only [setObj] at es
            cases ev : Nat.beq v latest with
            | false => rw [ev] at es; cases es
            | true =>
              have hvl : v = latest := Nat.eq_of_beq_eq_true ev
              subst hvl
              rw [ev, h1] at es
              simp only at es
              cases eb : Nat.ble (Nat.add c (len xs)) e with
              | false => rw [eb] at es; cases es
              | true =>
                rw [eb] at es
                simp only at es
                have hle : c + xs.length ≤ e := by have := Nat.le_of_ble_eq_true eb; rw [len_eq] at this; exact this
                cases ef : Nat.ble frz c with
                | false => rw [ef] at es; cases es
                | true =>
                  rw [ef] at es; cases es
                  have hfz : frz ≤ c := Nat.le_of_ble_eq_true ef
                  have hlim := h4 (by omega)
                  obtain ⟨C', r1, r2, r3⟩ := run_storeCells' P L.blk (L.off + (c - L.c0)) elem fz vals 0 C w h2 (by omega) hone (by
                    intro d hd1 hd2
                    have := h7 (c + (d - (L.off + (c - L.c0)))) (by omega) (by omega) (by omega)
                    have he : L.off + (c + (d - (L.off + (c - L.c0))) - L.c0) = d := by omega
                    rw [he] at this; omega)
                  refine ⟨_, r1, H.turn hL hgb _ _ ?_⟩
                  intro v' L' hL'
                  have ho' := H.obj _ _ _ _ hL' eo
                  obtain ⟨e', C1, fz1, k1, k2, k3, k4, k5, k6, k7⟩ := ho'
                  by_cases hb : L.blk = L'.blk
                  · rw [if_pos hb]
                    have hal := (H.inj _ _ _ _ _ _ hL hL' hb).2
                    rw [← hb, h2] at k2; cases k2
                    refine ⟨e', C', fz, k1, rfl, by rw [r2, k3], k4, ?_, k6, k7⟩
                    intro d x o hd1 hd2 hd3 hd4
                    rw [setRow_at] at hd3
                    rw [r3]
                    by_cases hin : c ≤ d ∧ d < c + xs.length
                    · rw [if_pos hin] at hd3
                      cases hxd : xs[d - c]? with
                      | none => rw [hxd] at hd3; cases hd3
                      | some x' =>
                        rw [hxd] at hd3; cases hd3
                        obtain ⟨u, hu, hr⟩ := hx.get _ _ hxd
                        refine ⟨u, ?_, hr⟩
                        rw [if_pos (by omega)]
                        rw [← hu]; congr 1; omega
                    · rw [if_neg hin] at hd3
                      obtain ⟨u, hu, hr⟩ := k5 d x o hd1 hd2 hd3 hd4
                      refine ⟨u, ?_, hr⟩
                      rw [if_neg (by omega)]; exact hu
                  · rw [if_neg hb]
                    refine ⟨e', C1, fz1, k1, k2, k3, k4, ?_, k6, k7⟩
                    intro d x o hd1 hd2 hd3 hd4
                    rw [setRow_at] at hd3
                    by_cases hin : c ≤ d ∧ d < c + xs.length
                    · rw [if_pos hin] at hd3
                      cases hxd : xs[d - c]? with
                      | none => rw [hxd] at hd3; cases hd3
                      | some x' =>
                        rw [hxd] at hd3; cases hd3
                        -- seen by the latest version alone
                        have hvv : v = v' := by
                          have : v' ≤ v := by
                            unfold endOf at k1
                            cases ek : Nat.ble v' v with
                            | true => exact Nat.le_of_ble_eq_true ek
                            | false => rw [ek] at k1; cases k1
                          omega
                        subst hvv
                        rw [hL] at hL'; cases hL'
                        exact absurd rfl hb
                    · rw [if_neg hin] at hd3
                      exact k5 d x o hd1 hd2 hd3 hd4
          | map es' => simp [setObj] at es
          | loop lp => simp [setObj] at es
          | deferred ds => simp [setObj] at es
          | iter m seen since => simp [setObj] at es

end Go.Vm
end
