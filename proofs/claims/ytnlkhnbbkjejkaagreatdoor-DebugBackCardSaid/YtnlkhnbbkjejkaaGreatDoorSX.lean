/- DebugBack returns true for every list, index and number, and changes nothing that lay before. No conditions. Part SX. -/
import Derived.Test.YtnlkhnbbkjejkaaGreatDoorProg
import Derived.KernelRfl
import Derived.Test.YtnlkhnbbkjejkaaGreatDoorFE
set_option linter.unusedSimpArgs false
set_option linter.unusedVariables false
namespace Go.Vm
open Go.Proofs
/-! ### the program, its words -/
def wordsL : List AV := [.str 1522119698798, .str 23424612, .str 92518, .str 6247966062, .str 5996573541, .str 23490418, .str 91247, .str 6231975280, .str 1603875924332, .str 1612364475493, .str 6030324847, .str 24082286, .str 101733912789083506, .str 6214213996, .str 99764666106208622, .str 1518043554169, .str 408431684248424, .str 6796647737854981927525, .str 1607952266597, .str 1565001934188, .str 408418949623399, .str 6248625509, .str 1539232789349, .str 100046132509765236, .str 24014708, .str 23162468, .str 94066, .str 23686512, .str 23425398]
def stdL : List AV := [.str 23159411, .str 393000050582898, .str 1552335597172, .str 1735275154657764278886766, .str 1735275156627010961761650, .str 103430459448713580, .str 6778418591595114360423, .str 6231254894]
def keysL : List AV := [.str 23159411, .str 6231254894, .str 393000050582898, .str 1552335597172, .str 1735275156627010961761650, .str 103430459448713580, .str 1735275154657764278886766, .str 6778418591595114360423]
/-- lex.Words returns a new list of the words. -/
def wordsHook (args : List AV) (_ : T Obj) : Option (List AV × TypeId) := match args with
  | [] => some (wordsL, 9)
  | _ => none
/-- slices.Sorted of the keys of the map of the standard procedures. -/
def sortHook (args : List AV) (h : T Obj) : Option (List AV × TypeId) := match args with
  | [.func (.func f) [] [.ptr g 0 0]] => match Nat.beq f 437, h.get g with
    | true, some (.row [.map mg] _) => match h.get mg with
      | some (.map es) => match AV.beqs (es.map fun x => x.1) keysL with
        | true => some (stdL, 9)
        | false => none
      | _ => none
    | _, _ => none
  | _ => none
noncomputable def E1 : Env := { P := Tryz.prog, base := 11, hooks := [(412, wordsHook), (353, sortHook)] }
noncomputable def F1 : FE := { E := E1, funcs := treeOf 12 Tryz.prog.funcs.toList, types := treeOf 12 Tryz.prog.types.toList }
noncomputable def E0 : Env := { P := Tryz.prog, base := 11, hooks := [] }
noncomputable def F0 : FE := { E := E0, funcs := treeOf 12 Tryz.prog.funcs.toList, types := treeOf 12 Tryz.prog.types.toList }
def spaceL : List AV := replicateA 9 [.int .u8 0] ++ (replicateA 5 [.int .u8 1] ++ (replicateA 18 [.int .u8 0] ++ ([.int .u8 1] ++ replicateA 223 [.int .u8 0])))
def spaceH : T Obj := (T.leaf : T Obj).set (.row spaceL 776) (nk 2)

/-! ### short words for states -/
def e1 : Pos := .one
def e2 : Pos := .b0 .one
def e3 : Pos := .b1 .one
def e4 : Pos := .b0 (.b0 .one)
def e5 : Pos := .b1 (.b0 .one)
def e6 : Pos := .b0 (.b1 .one)
def e7 : Pos := .b1 (.b1 .one)
def e8 : Pos := .b0 (.b0 (.b0 .one))
def e9 : Pos := .b1 (.b0 (.b0 .one))
def e10 : Pos := .b0 (.b1 (.b0 .one))
def e11 : Pos := .b1 (.b1 (.b0 .one))
def e12 : Pos := .b0 (.b0 (.b1 .one))
def e13 : Pos := .b1 (.b0 (.b1 .one))
def e14 : Pos := .b0 (.b1 (.b1 .one))
def e15 : Pos := .b1 (.b1 (.b1 .one))
def d0 (p : Pos) : Pos := .b0 (.b0 (.b0 (.b0 p)))
def d1 (p : Pos) : Pos := .b1 (.b0 (.b0 (.b0 p)))
def d2 (p : Pos) : Pos := .b0 (.b1 (.b0 (.b0 p)))
def d3 (p : Pos) : Pos := .b1 (.b1 (.b0 (.b0 p)))
def d4 (p : Pos) : Pos := .b0 (.b0 (.b1 (.b0 p)))
def d5 (p : Pos) : Pos := .b1 (.b0 (.b1 (.b0 p)))
def d6 (p : Pos) : Pos := .b0 (.b1 (.b1 (.b0 p)))
def d7 (p : Pos) : Pos := .b1 (.b1 (.b1 (.b0 p)))
def d8 (p : Pos) : Pos := .b0 (.b0 (.b0 (.b1 p)))
def d9 (p : Pos) : Pos := .b1 (.b0 (.b0 (.b1 p)))
def d10 (p : Pos) : Pos := .b0 (.b1 (.b0 (.b1 p)))
def d11 (p : Pos) : Pos := .b1 (.b1 (.b0 (.b1 p)))
def d12 (p : Pos) : Pos := .b0 (.b0 (.b1 (.b1 p)))
def d13 (p : Pos) : Pos := .b1 (.b0 (.b1 (.b1 p)))
def d14 (p : Pos) : Pos := .b0 (.b1 (.b1 (.b1 p)))
def d15 (p : Pos) : Pos := .b1 (.b1 (.b1 (.b1 p)))
def vT : AV := .bool true
def vF : AV := .bool false
def i (n : Nat) : AV := .int .i64 (Int.ofNat n)
def ik (k : IntKind) (n : Nat) : AV := .int k (Int.ofNat n)
def iN (k : IntKind) (n : Nat) : AV := .int k (Int.negSucc n)
def s (n : Nat) : AV := .str n
def p (g : Pos) (v c : Nat) : AV := .ptr g v c
def vp : AV := .nilptr
def sl (g : Pos) (v c n : Nat) (cap : Option Nat) (es : Nat) : AV := .slice g v c n cap es
def vl : AV := .nilslice
def mp (g : Pos) : AV := .map g
def vm : AV := .nilmap
def fu (f : FuncId) (a b : List AV) : AV := .func (.func f) a b
def yi (g : Pos) : AV := .yield g
def vf : AV := .nilfunc
def fa (t : TypeId) (v : AV) : AV := .iface t v
def vi : AV := .niliface
def ag (l : List AV) : AV := .agg l
def tu (l : List AV) : AV := .tuple l
def vu : AV := .tuple []
def tL {α : Type} : T α := .leaf
def tM {α : Type} (l r : T α) : T α := .node l none r
def tO {α : Type} (x : α) : T α := .node .leaf (some x) .leaf
def tN {α : Type} (l : T α) (x : α) (r : T α) : T α := .node l (some x) r
noncomputable def bodyOf (f : FuncId) : Code := match getFn F1.funcs (nk f) with
  | some fn => match fn.body with
    | some c => c
    | none => .skip
  | none => .skip
def walkC : List Nat → Code → Code
  | [], c => c
  | i :: l, c => match c with
    | .seq a b => walkC l (match i with | 0 => a | _ + 1 => b)
    | .cond _ a b => walkC l (match i with | 0 => a | _ + 1 => b)
    | .rangeFunc _ _ a b => walkC l (match i with | 0 => a | _ + 1 => b)
    | .block _ a => walkC l a
    | .loop a => walkC l a
    | .scope a => walkC l a
    | c => c
noncomputable def cA (f : FuncId) (l : List Nat) : Code := walkC l (bodyOf f)
def opsAt : Code → List Oper
  | .region _ ops _ => ops.toList
  | _ => []
noncomputable def oA (f : FuncId) (l : List Nat) : List Oper := opsAt (cA f l)
noncomputable def rA (f : FuncId) (l : List Nat) (n : Nat) : AItem := .reg (oA f l) (dropN n (oA f l))
def cR : AItem := .code .ret

end Go.Vm
