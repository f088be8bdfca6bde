/- DebugBack returns true for every list, index and number, and changes nothing that lay before. No conditions. Part VD. -/
import Derived.Test.YtnlkhnbbkjejkaaGreatDoorVC
import Derived.Control
import Derived.Calls
import Derived.Below
set_option linter.unusedSimpArgs false
set_option linter.unusedVariables false
section
namespace Go.Vm

/-! ### frames -/
def regR (ops rest : List Oper) (ops' : Array Oper) (todo : List Nat) : Prop := ops'.toList = ops ∧ ∃ i, i ≤ ops.length ∧ todo = List.range' i (ops.length - i) ∧ rest = ops.drop i
def IR (σ : Sig) : AItem → Item → Prop
  | .code c, i => i = .code c
  | .inBlock n, i => i = .inBlock n
  | .inLoop c, i => i = .inLoop c
  | .inScope c, i => i = .inScope c
  | .reg ops rest, i => ∃ ops' todo, i = .inRegion ops' todo ∧ regR ops rest ops' todo
  | .inRange l, i => ∃ L, σ l 0 = some L ∧ i = .inRangeFunc L.blk
  | .endRange l, i => ∃ L, σ l 0 = some L ∧ i = .endRangeFunc L.blk
  | .beginRound, i => i = .beginRound
  | .draw _ _ _ _ _ _, _ => False
  | .drawIn _ _ _ _ _ _, _ => False
def IRs (σ : Sig) : List AItem → List Item → Prop
  | [], l => l = []
  | a :: as, l => ∃ i l', l = i :: l' ∧ IR σ a i ∧ IRs σ as l'
theorem IR.mono {σ σ' : Sig} (hs : Sub σ σ') : ∀ {a : AItem} {i : Item}, IR σ a i → IR σ' a i
  | .code _, _, h => h
  | .inBlock _, _, h => h
  | .inLoop _, _, h => h
  | .inScope _, _, h => h
  | .reg _ _, _, h => h
  | .inRange _, _, ⟨L, h1, h2⟩ => ⟨L, hs _ _ _ h1, h2⟩
  | .endRange _, _, ⟨L, h1, h2⟩ => ⟨L, hs _ _ _ h1, h2⟩
  | .beginRound, _, h => h
  | .draw _ _ _ _ _ _, _, h => h
  | .drawIn _ _ _ _ _ _, _, h => h
theorem IRs.mono {σ σ' : Sig} (hs : Sub σ σ') : ∀ {a : List AItem} {l : List Item}, IRs σ a l → IRs σ' a l
  | [], _, h => h
  | _ :: _, _, ⟨i, l', h1, h2, h3⟩ => ⟨i, l', h1, h2.mono hs, IRs.mono hs h3⟩

/-- Who comes ahead of whom. -/
def Before (bs : List Nat) (j i : Nat) : Prop := bitOf bs j i = true
/-- In what is left, nobody stands behind one that it comes ahead of. -/
def Topo (bs : List Nat) : List Nat → Prop
  | [] => True
  | i :: r => (∀ j, Before bs j i → j ∉ i :: r) ∧ Topo bs r
def dstOf (ops : List Oper) (j : Nat) : Option Nat := (ops[j]?).bind (·.dst)
/-- What is known of a drawn region in its midst. -/
structure DI (σ : Sig) (base : Nat) (next : Pos) (ops : List Oper) (bs : List Nat) (last : Option Nat) (effs : List Nat) (done : List Nat) (als : List (Nat × Pos)) (t : T AV) (tmps : Array Value) (rem : List Nat) : Prop where
  nodup : rem.Nodup
  lt : ∀ i ∈ rem, i < ops.length
  topo : Topo bs rem
  hlast : ∀ e, last = some e → ∀ i ∈ rem, ¬ Before bs i e
  effIn : ∀ i o, i ∈ rem → ops[i]? = some o → isEff o = true → i ∈ effs
  effRem : ∀ e ∈ effs, e ∈ rem
  effIs : ∀ e ∈ effs, ∃ o, ops[e]? = some o ∧ isEff o = true
  chained : chain bs effs = true
  hdone : ∀ i o, ops[i]? = some o → i ∉ rem → isEff o = false → mem i done = true
  doneSmall : ∀ i, mem i done = true → ∃ o, ops[i]? = some o ∧ isEff o = false
  hals : ∀ i g, (i, g) ∈ als → i ∈ rem → (∀ v, σ g v = none) ∧ base < g.val ∧ g.val < next.val
  alsNd : (als.map (·.2)).Nodup
  alsLt : ∀ i g, (i, g) ∈ als → g.val < next.val
  htmps : TR σ t tmps (fun k => ∀ j ∈ rem, dstOf ops j = some k → mem j done = false)

def TopR (σ : Sig) (base : Nat) (next : Pos) (fr : AFrame) (f : Frame) : Prop :=
  match fr.todo with
  | .draw ops bs last effs done als :: k => ∃ ops' rem K, f.todo = .inRegion ops' rem :: K ∧ ops'.toList = ops ∧ IRs σ k K ∧ DI σ base next ops bs last effs done als fr.tmps f.tmps rem
  | .drawIn ops bs e effs done als :: k => ∃ ops' rem K, f.todo = .inRegion ops' (e :: rem) :: K ∧ ops'.toList = ops ∧ IRs σ k K ∧ DI σ base next ops bs (some e) effs done als fr.tmps f.tmps rem ∧ mem e done = false ∧
      (∃ o, ops[e]? = some o ∧ isEff o = true)
  | t => IRs σ t f.todo ∧ TR σ fr.tmps f.tmps (fun _ => True)
def PaR (σ : Sig) : List APanic → List PanicEntry → Prop
  | [], l => l = []
  | a :: as, l => ∃ p l', l = p :: l' ∧ RV σ a.v p.v ∧ p.recovered = a.recovered ∧ p.goexit = false ∧ PaR σ as l'
def ModeR (σ : Sig) : AMode → FrameMode → Prop
  | .run, m => m = .run
  | .returning, m => m = .returning
  | .panicking ch, m => ∃ c, m = .panicking c ∧ PaR σ ch c
structure FR (σ : Sig) (base : Nat) (next : Pos) (fr : AFrame) (f : Frame) : Prop where
  fn : f.fn = fr.fn
  size : f.tmps.size = fr.n
  top : TopR σ base next fr f
  defers : DsR σ fr.defers f.defers
  mode : ModeR σ fr.mode f.mode
  kind : f.kind = (match fr.deferred with | true => .deferred | false => .normal)
  round : (fr.roundOf = none ∧ f.roundOf = none) ∨ ∃ l L, fr.roundOf = some l ∧ σ l 0 = some L ∧ f.roundOf = some L.blk
def CsR (σ : Sig) (base : Nat) (next : Pos) : List AFrame → List Frame → Prop
  | [], l => l = []
  | a :: as, l => ∃ f l', l = f :: l' ∧ FR σ base next a f ∧ CsR σ base next as l'
/-- the groups that frames have given away and not yet laid -/
def alsOf (fr : AFrame) : List Pos := match fr.todo with
  | .draw _ _ _ _ _ als :: _ => als.map (·.2)
  | .drawIn _ _ _ _ _ als :: _ => als.map (·.2)
  | _ => []
def alsAll : List AFrame → List Pos
  | [] => []
  | f :: l => alsOf f ++ alsAll l

structure Rel (E : Env) (W0 : World) (CS : List Frame) (s : St) (m : Machine) : Prop where
  go : ∃ σ f cs w, m = lone f (cs ++ CS) w ∧ WR W0 E.base σ s.h s.next w ∧ GL σ E.base ∧ FR σ E.base s.next s.fr f ∧ CsR σ E.base s.next s.cs cs ∧ (alsAll (s.fr :: s.cs)).Nodup

/-! ### more places, more groups -/
theorem PaR.mono {σ σ' : Sig} (hs : Sub σ σ') : ∀ {a : List APanic} {l : List PanicEntry}, PaR σ a l → PaR σ' a l
  | [], _, h => h
  | _ :: _, _, ⟨p, l', h1, h2, h3, h4, h5⟩ => ⟨p, l', h1, RV.mono hs _ _ h2, h3, h4, PaR.mono hs h5⟩
theorem ModeR.mono {σ σ' : Sig} (hs : Sub σ σ') {a : AMode} {m : FrameMode} (h : ModeR σ a m) : ModeR σ' a m := by
  cases a with
  | run => exact h
  | returning => exact h
  | panicking ch => obtain ⟨c, h1, h2⟩ := h; exact ⟨c, h1, h2.mono hs⟩
theorem DI.mono {σ σ' : Sig} {base : Nat} {next next' : Pos} {A : List Pos} (hs : Sub σ σ') (hn : New σ σ' next A) (hle : next.val ≤ next'.val) {ops : List Oper} {bs : List Nat} {last : Option Nat} {effs done : List Nat} {als : List (Nat × Pos)}
    {t : T AV} {tmps : Array Value} {rem : List Nat} (hA : ∀ g ∈ als.map (·.2), g ∉ A) (h : DI σ base next ops bs last effs done als t tmps rem) : DI σ' base next' ops bs last effs done als t tmps rem :=
  { nodup := h.nodup, lt := h.lt, topo := h.topo, hlast := h.hlast, effIn := h.effIn, effRem := h.effRem, effIs := h.effIs, chained := h.chained, hdone := h.hdone, doneSmall := h.doneSmall, alsNd := h.alsNd
    alsLt := fun i g hi => Nat.lt_of_lt_of_le (h.alsLt i g hi) hle
    hals := fun i g hi hr => by
      obtain ⟨h1, h2, h3⟩ := h.hals i g hi hr
      exact ⟨hn g h1 h3 (hA g (List.mem_map.2 ⟨(i, g), hi, rfl⟩)), h2, Nat.lt_of_lt_of_le h3 hle⟩
    htmps := h.htmps.mono hs }
theorem TopR.mono {σ σ' : Sig} {base : Nat} {next next' : Pos} {A : List Pos} (hs : Sub σ σ') (hn : New σ σ' next A) (hle : next.val ≤ next'.val) {fr : AFrame} {f : Frame} (hA : ∀ g ∈ alsOf fr, g ∉ A) (h : TopR σ base next fr f) : TopR σ' base next' fr f := by
  unfold TopR at h ⊢
  unfold alsOf at hA
  split
  · rename_i e
    rw [e] at h hA
    obtain ⟨ops', rem, K, h1, h2, h3, h4⟩ := h
    exact ⟨ops', rem, K, h1, h2, h3.mono hs, h4.mono hs hn hle hA⟩
  · rename_i e
    rw [e] at h hA
    obtain ⟨ops', rem, K, h1, h2, h3, h4, h5⟩ := h
    exact ⟨ops', rem, K, h1, h2, h3.mono hs, h4.mono hs hn hle hA, h5⟩
  · rename_i h1 h2
    split at h
    · rename_i e; exact absurd e (h1 _ _ _ _ _ _ _)
    · rename_i e; exact absurd e (h2 _ _ _ _ _ _ _)
    · exact ⟨h.1.mono hs, h.2.mono hs⟩
theorem FR.mono {σ σ' : Sig} {base : Nat} {next next' : Pos} {A : List Pos} (hs : Sub σ σ') (hn : New σ σ' next A) (hle : next.val ≤ next'.val) {fr : AFrame} {f : Frame} (hA : ∀ g ∈ alsOf fr, g ∉ A) (h : FR σ base next fr f) : FR σ' base next' fr f :=
  ⟨h.fn, h.size, h.top.mono hs hn hle hA, h.defers.mono hs, h.mode.mono hs, h.kind, h.round.imp id (fun ⟨l, L, h1, h2, h3⟩ => ⟨l, L, h1, hs _ _ _ h2, h3⟩)⟩
theorem CsR.mono {σ σ' : Sig} {base : Nat} {next next' : Pos} {A : List Pos} (hs : Sub σ σ') (hn : New σ σ' next A) (hle : next.val ≤ next'.val) : ∀ {a : List AFrame} {l : List Frame}, (∀ g ∈ alsAll a, g ∉ A) → CsR σ base next a l → CsR σ' base next' a l
  | [], _, _, h => h
  | a :: as, _, hA, ⟨f, l', h1, h2, h3⟩ => ⟨f, l', h1, h2.mono hs hn hle (fun g hg => hA g (by simp [alsAll, hg])), CsR.mono hs hn hle (fun g hg => hA g (by simp [alsAll, hg])) h3⟩
end Go.Vm
end
section
namespace Go.Vm

section
variable {P : Program} {f : Frame} {cs : List Frame} {w w' : World} {K : List Item}

theorem step_skip (hm : f.mode = .run) (h : f.todo = .code .skip :: K) : step P (lone f cs w) = .next (lone { f with todo := K } cs w) :=
  step_lone_go (by simp [stepG, stepG.exec, hm, h])
theorem step_label {n : Nat} (hm : f.mode = .run) (h : f.todo = .code (.label n) :: K) : step P (lone f cs w) = .next (lone { f with todo := K } cs w) :=
  step_lone_go (by simp [stepG, stepG.exec, hm, h])
theorem step_outBlock {n : Nat} (hm : f.mode = .run) (h : f.todo = .inBlock n :: K) : step P (lone f cs w) = .next (lone { f with todo := K } cs w) :=
  step_lone_go (by simp [stepG, stepG.exec, hm, h])
theorem step_outScope {c : Code} (hm : f.mode = .run) (h : f.todo = .inScope c :: K) : step P (lone f cs w) = .next (lone { f with todo := K } cs w) :=
  step_lone_go (by simp [stepG, stepG.exec, hm, h])
theorem step_seq {a b : Code} (hm : f.mode = .run) (h : f.todo = .code (.seq a b) :: K) : step P (lone f cs w) = .next (lone { f with todo := .code a :: .code b :: K } cs w) :=
  step_lone_go (by simp [stepG, stepG.exec, hm, h])
theorem step_cond {c : Operand} {a b : Code} {v : Bool} (hm : f.mode = .run) (h : f.todo = .code (.cond c a b) :: K) (hv : f.eval c = .bool v) :
    step P (lone f cs w) = .next (lone { f with todo := .code (if v then a else b) :: K } cs w) :=
  step_lone_go (by simp [stepG, stepG.exec, hm, h, hv])
theorem step_block {n : Nat} {c : Code} (hm : f.mode = .run) (h : f.todo = .code (.block n c) :: K) : step P (lone f cs w) = .next (lone { f with todo := .code c :: .inBlock n :: K } cs w) :=
  step_lone_go (by simp [stepG, stepG.exec, hm, h])
theorem step_loop {c : Code} (hm : f.mode = .run) (h : f.todo = .code (.loop c) :: K) : step P (lone f cs w) = .next (lone { f with todo := .code c :: .inLoop c :: K } cs w) :=
  step_lone_go (by simp [stepG, stepG.exec, hm, h])
theorem step_inLoop {c : Code} (hm : f.mode = .run) (h : f.todo = .inLoop c :: K) : step P (lone f cs w) = .next (lone { f with todo := .code c :: .inLoop c :: K } cs w) :=
  step_lone_go (by simp [stepG, stepG.exec, hm, h])
theorem step_scope {c : Code} (hm : f.mode = .run) (h : f.todo = .code (.scope c) :: K) : step P (lone f cs w) = .next (lone { f with todo := .code c :: .inScope c :: K } cs w) :=
  step_lone_go (by simp [stepG, stepG.exec, hm, h])
theorem step_exit {n : Nat} {K' : List Item} (hm : f.mode = .run) (h : f.todo = .code (.exit n) :: K) (hx : exitTo n K = some K') : step P (lone f cs w) = .next (lone { f with todo := K' } cs w) :=
  step_lone_go (by simp [stepG, stepG.exec, hm, h, hx])
theorem step_goto {n : Nat} {K' : List Item} (hm : f.mode = .run) (h : f.todo = .code (.goto n) :: K) (hx : gotoIn n K = some K') : step P (lone f cs w) = .next (lone { f with todo := K' } cs w) :=
  step_lone_go (by simp [stepG, stepG.exec, hm, h, hx])
theorem step_regionF {id : Nat} {ops : Array Oper} (hm : f.mode = .run) (h : f.todo = .code (.region id ops false) :: K) :
    step P (lone f cs w) = .next (lone { f with todo := .inRegion ops (List.range ops.size) :: K } cs w) :=
  step_lone_go (by simp [stepG, stepG.exec, hm, h])
theorem step_regionT {id : Nat} {ops : Array Oper} (hm : f.mode = .run) (h : f.todo = .code (.region id ops true) :: K) :
    step P (lone f cs w) = .next (lone { f with todo := .inRegion ops (Region.schedule (P.follows .mixedOrders) ops (w.tape w.drawn (.order f.fn id))) :: K } cs w.drew) :=
  step_lone_go (by simp [stepG, stepG.exec, hm, h, choose, Sem.run, Question.forced, Question.cut])
theorem step_regEnd {ops : Array Oper} (hm : f.mode = .run) (h : f.todo = .inRegion ops [] :: K) : step P (lone f cs w) = .next (lone { f with todo := K } cs w) :=
  step_lone_go (by simp [stepG, stepG.exec, hm, h])
theorem step_unwanted {ops : Array Oper} {i : Nat} {rest : List Nat} {o : Oper} (hm : f.mode = .run) (h : f.todo = .inRegion ops (i :: rest) :: K) (ho : ops[i]? = some o) (hw : Region.wanted o (yielded ops f.tmps) = false) :
    step P (lone f cs w) = .next (lone (f.finish undef) cs w) :=
  step_lone_go (by simp [stepG, stepG.exec, hm, h, ho, hw])

theorem stepG_opV {ops : Array Oper} {i : Nat} {rest : List Nat} {o : Oper} (hm : f.mode = .run) (h : f.todo = .inRegion ops (i :: rest) :: K) (ho : ops[i]? = some o) (hw : Region.wanted o (yielded ops f.tmps) = true)
    (hr : f.roundOf = none ∨ ∀ c, o.op ≠ .defer c) :
    stepG P true { frame := f, callers := cs, status := .running, dying := none } w = stepG.apply P true f cs none (execOp f.eval o) w := by
  simp only [stepG, hm, stepG.exec, h, ho, Option.map_some, Option.getD_some, hw, if_true, stepG.oper, Frame.oper?]
  rcases hr with hr | hr
  · rw [hr]
  · cases hro : f.roundOf with
    | none => rfl
    | some l =>
      cases hop : o.op <;> first
        | rfl
        | (exact absurd hop (hr _))
section
variable {ops : Array Oper} {i : Nat} {rest : List Nat} {o : Oper} (hm : f.mode = .run) (h : f.todo = .inRegion ops (i :: rest) :: K) (ho : ops[i]? = some o) (hw : Region.wanted o (yielded ops f.tmps) = true)
    (hr : f.roundOf = none ∨ ∀ c, o.op ≠ .defer c)
include hm h ho hw hr
theorem step_value {v : Value} (hres : (execOp f.eval o).run P w = .ok (.value v) w') : step P (lone f cs w) = .next (lone (f.finish v) cs w') :=
  step_lone_go (by rw [stepG_opV hm h ho hw hr]; simp [stepG.apply, hres])
theorem step_skipped (hres : (execOp f.eval o).run P w = .ok .skip w') : step P (lone f cs w) = .next (lone (f.finish undef) cs w') :=
  step_lone_go (by rw [stepG_opV hm h ho hw hr]; simp [stepG.apply, hres])
theorem step_enter {g : FuncId} {args : Array Value} (hres : (execOp f.eval o).run P w = .ok (.enter g args) w') : step P (lone f cs w) = .next (lone (Frame.enter P g args .normal) (f :: cs) w') :=
  step_lone_go (by rw [stepG_opV hm h ho hw hr]; simp [stepG.apply, hres, h])
theorem step_round {l : Nat} {g : FuncId} {tmps : Array Value} {a b : Code} (hres : (execOp f.eval o).run P w = .ok (.round l g tmps a b) w') :
    step P (lone f cs w) = .next (lone (Frame.round l g tmps a b .normal) (f :: cs) w') :=
  step_lone_go (by rw [stepG_opV hm h ho hw hr]; simp [stepG.apply, hres])
theorem step_deferred {d : Deferred} (hres : (execOp f.eval o).run P w = .ok (.defer d) w') : step P (lone f cs w) = .next (lone ({ f with defers := d :: f.defers }.finish undef) cs w') :=
  step_lone_go (by rw [stepG_opV hm h ho hw hr]; simp [stepG.apply, hres])
theorem step_panic {v : Value} (hres : (execOp f.eval o).run P w = .halt (.panic v) w') : step P (lone f cs w) = .next (lone (f.raise [{ v, recovered := false }]) cs w') :=
  step_lone_go (by rw [stepG_opV hm h ho hw hr]; simp [stepG.apply, hres])
theorem step_recover_some {v : Value} {cs' : List Frame} (hn : f.roundOf = none) (hres : (execOp f.eval o).run P w = .ok .recover w') (ht : tryRecover f cs = some (v, cs')) :
    step P (lone f cs w) = .next (lone (f.finish v) cs' w') :=
  step_lone_go (by rw [stepG_opV hm h ho hw hr]; simp [stepG.apply, hres, hn, ht])
theorem step_recover_none (hn : f.roundOf = none) (hres : (execOp f.eval o).run P w = .ok .recover w') (ht : tryRecover f cs = none) : step P (lone f cs w) = .next (lone (f.finish .nilIface) cs w') :=
  step_lone_go (by rw [stepG_opV hm h ho hw hr]; simp [stepG.apply, hres, hn, ht])
end
end
end Go.Vm
end
section
namespace Go.Vm

theorem undefR (σ : Sig) : RV σ undefA undef := by simp only [undefA, RV]; exact ⟨[], rfl, RVs.nil⟩
theorem tget_put (t : T AV) (d k : Nat) (v : AV) : tget (t.put d v) k = if d = k then v else tget t k := by
  unfold tget
  rw [T.at_put]
  by_cases h : d = k
  · rw [if_pos h, if_pos h]
  · rw [if_neg h, if_neg h]
theorem getD_set (a : Array Value) (d k : Nat) (v : Value) (hd : d < a.size) : (a.setIfInBounds d v).getD k undef = if d = k then v else a.getD k undef := by
  simp only [Array.getD_eq_getD_getElem?, Array.getElem?_setIfInBounds]
  by_cases h : d = k
  · subst h; simp [hd]
  · simp [h]
def setD (d : Option Nat) (a : Array Value) (u : Value) : Array Value := match d with
  | some d => a.setIfInBounds d u
  | none => a
/-- The destination, set in both. -/
theorem TR.setDst {σ : Sig} {t t' : T AV} {tmps : Array Value} {n : Nat} {ok : Nat → Prop} {d : Option Nat} {v : AV} {u : Value} (h : TR σ t tmps ok) (hn : tmps.size = n) (hs : setDst n t d v = some t') (hv : RV σ v u) :
    TR σ t' (setD d tmps u) (fun k => ok k ∨ d = some k) := by
  unfold Vm.setDst at hs
  cases d with
  | none =>
    simp only [Option.some.injEq] at hs
    subst hs
    intro k hk
    rcases hk with hk | hk
    · exact h k hk
    · cases hk
  | some d =>
    simp only at hs
    split at hs
    · rename_i hlt
      cases hs
      have hd : d < tmps.size := by rw [blt_eq] at hlt; rw [hn]; simpa using hlt
      intro k hk
      simp only [setD]
      rw [tget_put, getD_set _ _ _ _ hd]
      by_cases hdk : d = k
      · rw [if_pos hdk, if_pos hdk]; exact hv
      · rw [if_neg hdk, if_neg hdk]
        rcases hk with hk | hk
        · exact h k hk
        · cases hk; exact absurd rfl hdk
    · cases hs
theorem set_size (tmps : Array Value) (d : Option Nat) (u : Value) : (setD d tmps u).size = tmps.size := by
  cases d <;> simp [setD]

theorem RV.bool_inv {σ : Sig} {x : AV} {b : Bool} (hx : RV σ x (.bool b)) : x = .bool b := by
  cases x <;> simp only [RV] at hx <;> first
    | (cases hx; rfl)
    | (cases hx; done)
    | (obtain ⟨a, b⟩ := hx; simp_all; done)
    | (obtain ⟨a, b, c⟩ := hx; simp_all; done)
    | (obtain ⟨a, b, c, d⟩ := hx; simp_all; done)
/-- The guard, in both. -/
theorem guard_sound {σ : Sig} {ops : List Oper} {ops' : Array Oper} (he : ops'.toList = ops) {t : T AV} {tmps : Array Value} {o : Oper} (h : ∀ j b p d, o.guard = some (j, b) → ops[j]? = some p → p.dst = some d → RV σ (tget t d) (tmps.getD d undef)) :
    Region.wanted o (yielded ops' tmps) = guardOk ops t o := by
  unfold guardOk Region.wanted
  cases hgd : o.guard with
  | none => rfl
  | some jw =>
    obtain ⟨j, w⟩ := jw
    simp only
    rw [nth_eq]
    have hj : ops'[j]? = ops[j]? := by rw [← he]; simp
    unfold yielded
    rw [hj]
    cases hp : ops[j]? with
    | none => rfl
    | some p =>
      cases hd : p.dst with
      | none => simp [hd]
      | some d =>
        have hr := h j w p d hgd hp hd
        simp only [Option.bind_some, hd]
        cases ht : tmps[d]? with
        | none =>
          have hu : tmps.getD d undef = undef := by simp [Array.getD_eq_getD_getElem?, ht]
          rw [hu] at hr
          cases hv : tget t d <;> first
            | rfl
            | (rw [hv] at hr; simp only [RV, undef] at hr; cases hr)
        | some u =>
          have hu : tmps.getD d undef = u := by simp [Array.getD_eq_getD_getElem?, ht]
          rw [hu] at hr
          cases hv : tget t d <;> first
            | (rw [hv] at hr
               simp only [RV] at hr
               subst hr
               rename_i b
               cases b <;> cases w <;> rfl)
            | (cases u <;> first
                | rfl
                | (exfalso; have := hr.bool_inv; rw [hv] at this; cases this))
end Go.Vm
end
section
namespace Go.Vm

section
variable {E : Env} {W0 : World} {base : Nat} {σ : Sig} {next : Pos}

def isDraw : AItem → Bool
  | .draw _ _ _ _ _ _ => true
  | .drawIn _ _ _ _ _ _ => true
  | _ => false
theorem TopR.of_plain {fr : AFrame} {f : Frame} (h1 : IRs σ fr.todo f.todo) (h2 : TR σ fr.tmps f.tmps (fun _ => True)) : TopR σ base next fr f := by
  unfold TopR
  split
  · rename_i e; rw [e] at h1; obtain ⟨i, l', _, h, _⟩ := h1; exact h.elim
  · rename_i e; rw [e] at h1; obtain ⟨i, l', _, h, _⟩ := h1; exact h.elim
  · exact ⟨h1, h2⟩
theorem TopR.plain {fr : AFrame} {f : Frame} (h : TopR σ base next fr f) (hp : ∀ a k, fr.todo = a :: k → isDraw a = false) : IRs σ fr.todo f.todo ∧ TR σ fr.tmps f.tmps (fun _ => True) := by
  unfold TopR at h
  split at h
  · rename_i e; have := hp _ _ e; cases this
  · rename_i e; have := hp _ _ e; cases this
  · exact h
theorem alsOf_plain {fr : AFrame} {f : Frame} (h : IRs σ fr.todo f.todo) : alsOf fr = [] := by
  unfold alsOf
  split
  · rename_i e; rw [e] at h; obtain ⟨i, l', _, h, _⟩ := h; exact h.elim
  · rename_i e; rw [e] at h; obtain ⟨i, l', _, h, _⟩ := h; exact h.elim
  · rfl

theorem regR_cons {ops rest : List Oper} {o : Oper} {ops' : Array Oper} {todo : List Nat} (h : regR ops (o :: rest) ops' todo) : ∃ i todo', todo = i :: todo' ∧ ops'[i]? = some o ∧ regR ops rest ops' todo' := by
  obtain ⟨h1, i, h2, h3, h4⟩ := h
  have hlt : i < ops.length := by
    rcases Nat.lt_or_ge i ops.length with h | h
    · exact h
    · rw [List.drop_eq_nil_of_le h] at h4; cases h4
  have hd : ops.drop i = ops[i] :: ops.drop (i + 1) := (List.getElem_cons_drop hlt).symm
  rw [hd] at h4
  cases h4
  have hr : List.range' i (ops.length - i) = i :: List.range' (i + 1) (ops.length - (i + 1)) := by
    have : ops.length - i = (ops.length - (i + 1)) + 1 := by omega
    rw [this]; rfl
  refine ⟨i, _, by rw [h3, hr], ?_, h1, i + 1, hlt, rfl, rfl⟩
  have : ops'[i]? = ops'.toList[i]? := by simp
  rw [this, h1]; simp [hlt]
theorem regR_nil {ops : List Oper} {ops' : Array Oper} {todo : List Nat} (h : regR ops [] ops' todo) : todo = [] := by
  obtain ⟨h1, i, h2, h3, h4⟩ := h
  have : ops.length ≤ i := by
    have := congrArg List.length h4
    simp at this
    omega
  rw [h3]
  have : ops.length - i = 0 := by omega
  rw [this]; rfl

theorem finish_sound {fr fr' : AFrame} {f : Frame} {v : AV} {u : Value} (h : FR σ base next fr f) (hf : finishA fr v = some fr') (hv : RV σ v u) :
    FR σ base next fr' (f.finish u) ∧ alsOf fr' = alsOf fr := by
  unfold finishA at hf
  split at hf
  · rename_i x k htodo
    split at hf
    · -- a region
      rename_i ops o rest
      split at hf
      · rename_i t' hset
        cases hf
        obtain ⟨p1, p2⟩ := h.top.plain (fun a k' e => by rw [htodo] at e; cases e; rfl)
        rw [htodo] at p1
        obtain ⟨it, K, e1, ⟨ops', todo, e2, hreg⟩, hK⟩ := p1
        subst e2
        obtain ⟨i, todo', e3, ho, hreg'⟩ := regR_cons hreg
        subst e3
        have hfin : f.finish u = { f with tmps := setD o.dst f.tmps u, todo := .inRegion ops' todo' :: K } := by
          unfold Frame.finish
          rw [e1]
          simp only [ho, Option.bind_some]
          cases o.dst <;> rfl
        rw [hfin]
        have hT := p2.setDst h.size hset hv
        refine ⟨⟨h.fn, ?_, ?_, h.defers, h.mode, h.kind, h.round⟩, ?_⟩
        · rw [← h.size]; exact set_size _ _ _
        · exact TopR.of_plain ⟨_, K, rfl, ⟨ops', todo', rfl, hreg'⟩, hK⟩ (hT.weak (fun k _ => .inl trivial))
        · unfold alsOf; rw [htodo]
      · cases hf
    · -- in a drawn region
      rename_i ops bs e effs done als
      split at hf
      · rename_i o ho
        split at hf
        · rename_i t' hset
          cases hf
          have ht := h.top
          unfold TopR at ht
          rw [htodo] at ht
          obtain ⟨ops', rem, K, e1, e2, hK, hD, hdone, o', ho', heff⟩ := ht
          rw [nth_eq] at ho
          have hoo : ops'[e]? = some o := by
            have : ops'[e]? = ops'.toList[e]? := by simp
            rw [this, e2]; exact ho
          have hfin : f.finish u = { f with tmps := setD o.dst f.tmps u, todo := .inRegion ops' rem :: K } := by
            unfold Frame.finish
            rw [e1]
            simp only [hoo, Option.bind_some]
            cases o.dst <;> rfl
          rw [hfin]
          have hT := hD.htmps.setDst h.size hset hv
          refine ⟨⟨h.fn, ?_, ?_, h.defers, h.mode, h.kind, h.round⟩, ?_⟩
          · rw [← h.size]; exact set_size _ _ _
          · unfold TopR
            refine ⟨ops', rem, K, rfl, e2, hK, { hD with htmps := hT.weak (fun k hk => .inl hk) }⟩
          · unfold alsOf; rw [htodo]
        · cases hf
      · cases hf
    · -- the call of a range function
      rename_i l
      cases hf
      obtain ⟨p1, p2⟩ := h.top.plain (fun a k' e => by rw [htodo] at e; cases e; rfl)
      rw [htodo] at p1
      obtain ⟨it, K, e1, ⟨L, hL, e2⟩, hK⟩ := p1
      subst e2
      have hfin : f.finish u = { f with todo := .endRangeFunc L.blk :: K } := by
        unfold Frame.finish
        rw [e1]
      rw [hfin]
      refine ⟨⟨h.fn, h.size, TopR.of_plain ⟨_, K, rfl, ⟨L, hL, rfl⟩, hK⟩ p2, h.defers, h.mode, h.kind, h.round⟩, ?_⟩
      unfold alsOf; rw [htodo]
    · -- the beginning of a round
      cases hf
      obtain ⟨p1, p2⟩ := h.top.plain (fun a k' e => by rw [htodo] at e; cases e; rfl)
      rw [htodo] at p1
      obtain ⟨it, K, e1, e2, hK⟩ := p1
      simp only [IR] at e2
      subst e2
      have hfin : f.finish u = { f with todo := K } := by
        unfold Frame.finish
        rw [e1]
      rw [hfin]
      have hk2 : alsOf { fr with todo := k } = [] := by
        exact alsOf_plain (σ := σ) (f := { f with todo := K }) hK
      refine ⟨⟨h.fn, h.size, TopR.of_plain hK p2, h.defers, h.mode, h.kind, h.round⟩, ?_⟩
      rw [hk2]; unfold alsOf; rw [htodo]
    · cases hf
  · cases hf

theorem raise_sound {fr : AFrame} {f : Frame} {vs : List APanic} {us : List PanicEntry} (h : FR σ base next fr f) (hv : PaR σ vs us) : FR σ base next (raiseA fr vs) (f.raise us) ∧ alsOf (raiseA fr vs) = alsOf fr := by
  have happ : ∀ (vs : List APanic) (us : List PanicEntry) (ch : List APanic) (c : List PanicEntry), PaR σ vs us → PaR σ ch c → PaR σ (vs ++ ch) (us ++ c) := by
    intro vs
    induction vs with
    | nil => intro us ch c h1 h2; simp only [PaR] at h1; subst h1; exact h2
    | cons a vs ih =>
      rintro us ch c ⟨p, l', rfl, h2, h3, h4, h5⟩ hc
      exact ⟨p, l' ++ c, rfl, h2, h3, h4, ih _ _ _ h5 hc⟩
  unfold raiseA Frame.raise
  have hm := h.mode
  cases hmode : fr.mode with
  | run =>
    rw [hmode] at hm
    simp only [ModeR] at hm
    rw [hm]
    exact ⟨⟨h.fn, h.size, h.top, h.defers, ⟨us, rfl, hv⟩, h.kind, h.round⟩, rfl⟩
  | returning =>
    rw [hmode] at hm
    simp only [ModeR] at hm
    rw [hm]
    exact ⟨⟨h.fn, h.size, h.top, h.defers, ⟨us, rfl, hv⟩, h.kind, h.round⟩, rfl⟩
  | panicking ch =>
    rw [hmode] at hm
    obtain ⟨c, e, hc⟩ := hm
    rw [e]
    exact ⟨⟨h.fn, h.size, h.top, h.defers, ⟨_, rfl, happ _ _ _ _ hv hc⟩, h.kind, h.round⟩, rfl⟩
end
end Go.Vm
end
section
namespace Go.Vm

structure At (E : Env) (W0 : World) (σ : Sig) (s : St) (f : Frame) (cs : List Frame) (w : World) : Prop where
  wr : WR W0 E.base σ s.h s.next w
  gl : GL σ E.base
  fr : FR σ E.base s.next s.fr f
  cs : CsR σ E.base s.next s.cs cs
  nd : (alsAll (s.fr :: s.cs)).Nodup
/-- The machine stands where the state says. -/
def Stands (E : Env) (W0 : World) (CS : List Frame) (s : St) (m : Machine) : Prop := ∃ σ f cs w, m = lone f (cs ++ CS) w ∧ At E W0 σ s f cs w
/-- A function that returns a new list. -/
def HookOK (E : Env) (W0 : World) : Prop := ∀ f k, hookOf f E.hooks = some k → ∀ (σ : Sig) (h : T Obj) (next : Pos) (w : World) (args : List AV) (us : List Value) (l : List AV) (elem : TypeId) (cs : List Frame),
  WR W0 E.base σ h next w → RVs σ args us → k args h = some (l, elem) →
  ∃ (fr : Frame) (w1 : World) (b off cap : Nat) (C : Array Value), Steps E.P (lone (Frame.enter E.P f us.toArray .normal) cs w) (lone fr cs w1) ∧ fr.leaving E.P w1 (.returned (.slice (some ⟨b, off, none⟩) (len l) cap)) ∧ RowKit.Below w.heap.size w w1 ∧
    w.heap.size ≤ b ∧ w1.heap[b]? = some (.cells C elem (0, 0)) ∧ len l ≤ cap ∧ off + cap ≤ C.size ∧ RVs (fun _ _ => none) l ((C.toList.drop off).take (len l))

section
variable {E : Env} {W0 : World} {σ : Sig} {CS : List Frame}

/-- A new group in a block that has come. -/
theorem WR.placed {base : Nat} {h : T Obj} {next : Pos} {w w1 : World} (H : WR W0 base σ h next w) (hb : RowKit.Below w.heap.size w w1) {b : Nat} (hbw : w.heap.size ≤ b) {O : Go.Obj} (hO : w1.heap[b]? = some O) (L : Loc) (hL : L.blk = b)
    (o : Obj) (ho : OR (put σ next 0 L) (some O) 0 L o) : WR W0 base (put σ next 0 L) (h.set o next) next.succ w1 := by
  have hsub := put_sub σ next 0 L (H.fresh 0)
  have hlt := (Array.getElem?_eq_some_iff.1 hO).1
  have inv : ∀ g' v' L', put σ next 0 L g' v' = some L' → (g' = next ∧ v' = 0 ∧ L' = L) ∨ (g' ≠ next ∧ σ g' v' = some L') := by
    intro g' v' L' e
    unfold put at e
    split at e
    · rename_i hh; obtain ⟨rfl, rfl⟩ := hh; cases e; exact .inl ⟨rfl, rfl, rfl⟩
    · refine .inr ⟨?_, e⟩
      intro hgg; subst hgg; rw [H.fresh] at e; cases e
  refine ⟨hb.os.trans H.os, hb.tape.trans H.tape, hb.output.trans H.output, Nat.le_trans H.size hb.size, fun k hk => ?_, by have := H.nextp; rw [Pos.val_succ]; omega, ?_, ?_, ?_⟩
  · rw [hb.block k (by have := H.size; omega)]; exact H.old k hk
  · intro g' v' L' e
    rcases inv g' v' L' e with ⟨rfl, rfl, rfl⟩ | ⟨_, e⟩
    · exact ⟨by rw [hL]; exact hlt, fun _ => by have := H.size; omega, by rw [Pos.val_succ]; omega⟩
    · obtain ⟨h1, h2, h3⟩ := H.loc _ _ _ e
      exact ⟨by have := hb.size; omega, h2, by rw [Pos.val_succ]; omega⟩
  · intro g1 v1 L1 g2 v2 L2 e1 e2 hbb
    rcases inv _ _ _ e1 with ⟨rfl, rfl, rfl⟩ | ⟨_, f1⟩ <;> rcases inv _ _ _ e2 with ⟨rfl, rfl, rfl⟩ | ⟨_, f2⟩
    · exact ⟨rfl, rfl⟩
    · have := (H.loc _ _ _ f2).1; omega
    · have := (H.loc _ _ _ f1).1; omega
    · exact H.inj _ _ _ _ _ _ f1 f2 hbb
  · intro g' v' L' o' e eo
    rw [T.get_set] at eo
    rcases inv _ _ _ e with ⟨rfl, rfl, rfl⟩ | ⟨hne, e⟩
    · rw [if_pos rfl] at eo
      cases eo
      rw [hL, hO]; exact ho
    · rw [if_neg (Ne.symm hne)] at eo
      rw [hb.block _ (H.loc _ _ _ e).1]
      exact (H.obj _ _ _ _ e eo).mono hsub

theorem CsR.append_cons {base : Nat} {next : Pos} {a : AFrame} {as : List AFrame} {l : List Frame} (h : CsR σ base next (a :: as) l) : ∃ f l', l = f :: l' ∧ FR σ base next a f ∧ CsR σ base next as l' := h

theorem enter_sound {base : Nat} {next : Pos} {g : FuncId} {args : List AV} {us : List Value} {fr : AFrame} {d : Bool} (ha : RVs σ args us) (he : enterA E.P g args d = some fr) :
    FR σ base next fr (Frame.enter E.P g us.toArray (match d with | true => .deferred | false => .normal)) ∧ alsOf fr = [] ∧ fr.mode = .run := by
  unfold enterA at he
  split at he
  · rename_i fn hf
    split at he
    · rename_i c hb
      split at he
      · rename_i hle
        cases he
        have hlen := RVs.length ha
        have hle' : us.length ≤ fn.ntmps := by have := Nat.le_of_ble_eq_true hle; rw [len_eq] at this; omega
        have hT : ∀ (args : List AV) (us : List Value) (i : Nat) (t : T AV) (k : Nat), RVs σ args us → tget (argsT args i t) k = (if i ≤ k ∧ k < i + args.length then (args[k - i]?).getD undefA else tget t k) := by
          intro args
          induction args with
          | nil => intro us i t k _; simp only [argsT, List.length_nil]; rw [if_neg (by omega)]
          | cons a args ih =>
            intro us i t k hr
            obtain ⟨u, us', rfl, h1, h2⟩ := RVs.cons_inv hr
            simp only [argsT]
            rw [ih us' (Nat.add i 1) (t.put i a) k h2, tget_put]
            show (if i + 1 ≤ k ∧ k < i + 1 + args.length then _ else _) = _
            by_cases hk : k = i
            · subst hk
              rw [if_neg (by omega), if_pos rfl, if_pos (by simp)]
              simp
            · by_cases hin : i + 1 ≤ k ∧ k < i + 1 + args.length
              · rw [if_pos hin, if_pos (by simp; omega)]
                have : k - i = (k - (i + 1)) + 1 := by omega
                rw [this]; rfl
              · rw [if_neg hin, if_neg (by omega), if_neg (by simp; omega)]
        refine ⟨⟨rfl, ?_, ?_, rfl, rfl, ?_, .inl ⟨rfl, rfl⟩⟩, rfl, rfl⟩
        · simp [Frame.enter, hf]; omega
        · refine TopR.of_plain ?_ ?_
          · simp only [Frame.enter, hf, Option.bind_some, hb, Option.getD_some]
            exact ⟨_, [], rfl, rfl, rfl⟩
          · intro k _
            show RV σ (tget (argsT args 0 .leaf) k) ((us.toArray ++ Array.replicate _ undef).getD k undef)
            rw [hT args us 0 .leaf k ha]
            by_cases hk : k < us.length
            · rw [if_pos (by omega)]
              have h1 : args[k - 0]? = some args[k] := by simp [show k < args.length by omega]
              obtain ⟨u, hu, hr⟩ := ha.get _ _ h1
              rw [h1]
              have h2 : (us.toArray ++ Array.replicate ((Option.map (·.ntmps) E.P.funcs[g]?).getD 0 - us.toArray.size) undef).getD k undef = u := by
                rw [Array.getD_eq_getD_getElem?, Array.getElem?_append_left (by simpa using hk)]
                simp at hu ⊢
                simp [hu]
              rw [h2]; exact hr
            · rw [if_neg (by omega)]
              have h1 : tget (.leaf : T AV) k = undefA := rfl
              rw [h1]
              have h2 : (us.toArray ++ Array.replicate ((Option.map (·.ntmps) E.P.funcs[g]?).getD 0 - us.toArray.size) undef).getD k undef = undef := by
                rw [Array.getD_eq_getD_getElem?, Array.getElem?_append_right (by simp; omega)]
                simp only [Array.getElem?_replicate]
                split <;> rfl
              rw [h2]; exact undefR σ
        · cases d <;> rfl
      · cases he
    · cases he
  · cases he
end
end Go.Vm
end
section
namespace Go.Vm

section
variable {E : Env} {W0 : World} {σ : Sig} {CS : List Frame}

theorem setParams_sound : ∀ (ps : List Nat) (as : List AV) (us : List Value) (t t' : T AV) (tmps : Array Value) (n : Nat), RVs σ as us → tmps.size = n → TR σ t tmps (fun _ => True) → setParams n ps as t = some t' →
    TR σ t' ((ps.zip us).foldl (fun tmps (x : Nat × Value) => tmps.setIfInBounds x.1 x.2) tmps) (fun _ => True) ∧ ((ps.zip us).foldl (fun tmps (x : Nat × Value) => tmps.setIfInBounds x.1 x.2) tmps).size = n
  | [], [], us, t, t', tmps, n, hr, hn, hT, hs => by
    simp only [setParams, Option.some.injEq] at hs
    subst hs
    exact ⟨hT, hn⟩
  | [], _ :: _, _, _, _, _, _, _, _, _, hs => by simp [setParams] at hs
  | _ :: _, [], _, _, _, _, _, _, _, _, hs => by simp [setParams] at hs
  | p :: ps, a :: as, us, t, t', tmps, n, hr, hn, hT, hs => by
    obtain ⟨u, us', rfl, h1, h2⟩ := RVs.cons_inv hr
    simp only [setParams] at hs
    split at hs
    · rename_i hlt
      have hset : Vm.setDst n t (some p) a = some (t.put p a) := by
        unfold Vm.setDst
        simp only [hlt]
      have hT' := hT.setDst hn hset h1
      simp only [List.zip_cons_cons, List.foldl_cons]
      exact setParams_sound ps as us' (t.put p a) t' (tmps.setIfInBounds p u) n h2 (by simp [hn]) (hT'.weak (fun k _ => .inl trivial)) hs
    · cases hs

theorem mode_run {base : Nat} {next : Pos} {fr : AFrame} {f : Frame} (h : FR σ base next fr f) (hm : fr.mode = .run) : f.mode = .run := by
  have := h.mode
  rw [hm] at this
  exact this

theorem apply_sound (hH : HookOK E W0) {s s' : St} {f : Frame} {cs : List Frame} {w : World} (A : At E W0 σ s f cs w) (hm : s.fr.mode = .run) {ops' : Array Oper} {i : Nat} {rest : List Nat} {K : List Item} {o : Oper} {r : Res}
    (ht : f.todo = .inRegion ops' (i :: rest) :: K) (ho : ops'[i]? = some o) (hw : Region.wanted o (yielded ops' f.tmps) = true) (hdef : ∀ c, o.op = .defer c → ∃ d, r = .defer d)
    (hr : ResR W0 E.base σ s.next w r ((execOp f.eval o).run E.P w)) (ha : applyA E s r = some s') : ∃ m', Steps E.P (lone f (cs ++ CS) w) m' ∧ Stands E W0 CS s' m' := by
  have hfm := mode_run A.fr hm
  have hnd : ∀ c, (∀ d, r ≠ .defer d) → o.op ≠ .defer c := fun c hne e => by obtain ⟨d, e2⟩ := hdef c e; exact hne d e2
  cases r with
  | val v h' next' =>
    simp only [applyA] at ha
    split at ha
    · rename_i fr' hfin
      cases ha
      obtain ⟨σ', u, w', hrun, h1, h2, h3, h4, h5⟩ := hr
      have hf := A.fr.mono (A := []) h1 h2 h5 (fun g _ => by simp)
      obtain ⟨g1, g2⟩ := finish_sound hf hfin h4
      have hc := A.cs.mono (A := []) h1 h2 h5 (fun g _ => by simp)
      have hcase : f.roundOf = none ∨ ∀ c, o.op ≠ .defer c := .inr (fun c => hnd c (fun d e => by cases e))
      refine ⟨lone (f.finish u) (cs ++ CS) w', .one ?_, σ', f.finish u, cs, w', rfl, h3, A.gl.mono h1, g1, hc, ?_⟩
      · rcases hrun with hrun | ⟨hrun, rfl⟩
        · exact step_value hfm ht ho hw hcase hrun
        · exact step_skipped hfm ht ho hw hcase hrun
      · have := A.nd
        simp only [alsAll] at this ⊢
        rw [g2]; exact this
    · cases ha
  | enter g args =>
    simp only [applyA] at ha
    obtain ⟨us, hrun, hus⟩ := hr
    have hcase : f.roundOf = none ∨ ∀ c, o.op ≠ .defer c := .inr (fun c => hnd c (fun d e => by cases e))
    have hstep := step_enter (cs := cs ++ CS) hfm ht ho hw hcase hrun
    split at ha
    · rename_i hk hhook
      split at ha
      · rename_i l elem hkl
        split at ha
        · rename_i fr' hfin
          cases ha
          obtain ⟨fr1, w1, b, off, cap, C, k1, k2, k3, k4, k5, k6, k7, k8⟩ := hH g hk hhook σ s.h s.next w args us l elem (f :: (cs ++ CS)) A.wr hus hkl
          have hsub := put_sub σ s.next 0 ⟨b, off, 0, C.size⟩ (A.wr.fresh 0)
          have hnew : New σ (put σ s.next 0 ⟨b, off, 0, C.size⟩) s.next [] := put_new (Nat.le_refl _)
          have hle : s.next.val ≤ s.next.succ.val := by rw [Pos.val_succ]; omega
          have hv : RV (put σ s.next 0 ⟨b, off, 0, C.size⟩) (.slice s.next 0 0 (len l) none 1) (.slice (some ⟨b, off, none⟩) (len l) cap) := by
            simp only [RV]
            exact ⟨_, cap, rfl, k6, (fun q hq => by cases hq), _, put_same _ _ _ _, Nat.le_refl _, .inr ⟨rfl, by show off + (0 - 0) + cap * 1 ≤ C.size; omega⟩⟩
          have hf := A.fr.mono (A := []) hsub hnew hle (fun g _ => by simp)
          obtain ⟨g1, g2⟩ := finish_sound hf hfin hv
          have hc := A.cs.mono (A := []) hsub hnew hle (fun g _ => by simp)
          refine ⟨lone (f.finish (.slice (some ⟨b, off, none⟩) (len l) cap)) (cs ++ CS) w1, .head hstep (Steps.trans k1 (.one (step_leave_returned k2))), _, _, cs, w1, rfl, ?_, A.gl.mono hsub, g1, hc, ?_⟩
          · refine A.wr.placed k3 k4 k5 ⟨b, off, 0, C.size⟩ rfl _ (OR.newArrAt (RVs.mono (fun _ _ _ h => by cases h) _ _ k8) (by omega))
          · have := A.nd
            simp only [alsAll] at this ⊢
            rw [g2]; exact this
        · cases ha
      · cases ha
    · split at ha
      · rename_i fr' hent
        cases ha
        obtain ⟨g1, g2, g3⟩ := enter_sound (base := E.base) (next := s.next) hus hent
        refine ⟨_, .one hstep, σ, _, f :: cs, w, rfl, A.wr, A.gl, g1, ⟨f, cs, rfl, A.fr, A.cs⟩, ?_⟩
        have := A.nd
        simp only [alsAll] at this ⊢
        rw [g2]; exact this
      · cases ha
  | round l lp args =>
    simp only [applyA] at ha
    obtain ⟨L, lc, us, k1, k2, k3, k4, k5, hrun⟩ := hr
    have hcase : f.roundOf = none ∨ ∀ c, o.op ≠ .defer c := .inr (fun c => hnd c (fun d e => by cases e))
    have hstep := step_round (cs := cs ++ CS) hfm ht ho hw hcase hrun
    split at ha
    · rename_i t hset
      cases ha
      obtain ⟨p1, p2⟩ := setParams_sound lp.params args us lp.tmps t lc.tmps lp.n k4 k3.size k3.tmps hset
      have hfold : (lc.params.zip us.toArray).foldl (fun tmps (t, a) => tmps.setIfInBounds t a) lc.tmps = (lp.params.zip us).foldl (fun tmps (x : Nat × Value) => tmps.setIfInBounds x.1 x.2) lc.tmps := by
        rw [← Array.foldl_toList, Array.toList_zip, k3.params]
      refine ⟨_, .one hstep, σ, _, f :: cs, w, rfl, A.wr, A.gl, ?_, ⟨f, cs, rfl, A.fr, A.cs⟩, ?_⟩
      · refine ⟨k3.fn, ?_, ?_, rfl, rfl, rfl, .inr ⟨l, L, rfl, k1, rfl⟩⟩
        · simp only [Frame.round]; rw [hfold]; exact p2
        · refine TopR.of_plain ?_ ?_
          · simp only [Frame.round]
            exact ⟨_, _, rfl, by rw [k3.assign]; rfl, _, _, rfl, rfl, _, _, rfl, by rw [k3.body]; rfl, rfl⟩
          · simp only [Frame.round]; rw [hfold]; exact p1
      · have := A.nd
        simp only [alsAll] at this ⊢
        exact this
    · cases ha
  | defer d =>
    simp only [applyA] at ha
    obtain ⟨d', hrun, hd⟩ := hr
    split at ha
    · rename_i hro
      split at ha
      · rename_i fr' hfin
        cases ha
        have hfro : f.roundOf = none := by
          rcases A.fr.round with ⟨_, h⟩ | ⟨l, L, h, _⟩
          · exact h
          · rw [hro] at h; cases h
        have hstep := step_deferred (cs := cs ++ CS) hfm ht ho hw (.inl hfro) hrun
        have hf : FR σ E.base s.next { s.fr with defers := d :: s.fr.defers } { f with defers := d' :: f.defers } :=
          ⟨A.fr.fn, A.fr.size, A.fr.top, ⟨d', f.defers, rfl, hd, A.fr.defers⟩, A.fr.mode, A.fr.kind, A.fr.round⟩
        obtain ⟨g1, g2⟩ := finish_sound hf hfin (undefR σ)
        refine ⟨_, .one hstep, σ, _, cs, w, rfl, A.wr, A.gl, g1, A.cs, ?_⟩
        have := A.nd
        simp only [alsAll] at this ⊢
        rw [g2]; exact this
      · cases ha
    · cases ha
  | recover =>
    simp only [applyA] at ha
    have hcase : f.roundOf = none ∨ ∀ c, o.op ≠ .defer c := .inr (fun c => hnd c (fun d e => by cases e))
    have none_case : ∀ fr', f.roundOf = none → tryRecover f (cs ++ CS) = none → finishA s.fr .niliface = some fr' → s' = { s with fr := fr' } → ∃ m', Steps E.P (lone f (cs ++ CS) w) m' ∧ Stands E W0 CS s' m' := by
      intro fr' hfro htr hfin e
      subst e
      have hstep := step_recover_none hfm ht ho hw hcase hfro hr htr
      obtain ⟨g1, g2⟩ := finish_sound A.fr hfin (u := .nilIface) (by simp only [RV])
      refine ⟨_, .one hstep, σ, _, cs, w, rfl, A.wr, A.gl, g1, A.cs, ?_⟩
      have := A.nd
      simp only [alsAll] at this ⊢
      rw [g2]; exact this
    split at ha
    · rename_i c rest hro hdf hcs
      have hfro : f.roundOf = none := by
        rcases A.fr.round with ⟨_, h⟩ | ⟨l, L, h, _⟩
        · exact h
        · rw [hro] at h; cases h
      have hkind : f.kind = .deferred := by rw [A.fr.kind, hdf]
      have hc := A.cs
      rw [hcs] at hc
      obtain ⟨cf, cs', rfl, hcf, hcs'⟩ := hc
      split at ha
      · rename_i p older hmode
        have hmo := hcf.mode
        rw [hmode] at hmo
        obtain ⟨ch, e1, q, older', e2, k1, k2, k3, k4⟩ := hmo
        subst e2
        split at ha
        · rename_i hrec
          split at ha
          · rename_i fr' hfin
            cases ha
            have htr : tryRecover f (cf :: cs' ++ CS) = some (q.v, { cf with mode := .panicking ({ v := q.v, recovered := true } :: older') } :: (cs' ++ CS)) := by
              obtain ⟨qv, qr, qg⟩ := q
              simp only at k2 k3
              rw [hrec] at k2
              subst k2 k3
              simp [tryRecover, hkind, e1]
            have hstep := step_recover_some hfm ht ho hw hcase hfro hr htr
            obtain ⟨g1, g2⟩ := finish_sound A.fr hfin k1
            refine ⟨_, .one hstep, σ, _, { cf with mode := .panicking ({ v := q.v, recovered := true } :: older') } :: cs', w, rfl, A.wr, A.gl, g1, ⟨_, cs', rfl, ?_, hcs'⟩, ?_⟩
            · exact ⟨hcf.fn, hcf.size, hcf.top, hcf.defers, ⟨_, rfl, _, _, rfl, k1, rfl, rfl, k4⟩, hcf.kind, hcf.round⟩
            · have := A.nd
              rw [hcs] at this
              simp only [alsAll] at this ⊢
              rw [g2]; exact this
          · cases ha
        · rename_i hrec
          split at ha
          · rename_i fr' hfin
            cases ha
            refine none_case fr' hfro ?_ hfin rfl
            obtain ⟨qv, qr, qg⟩ := q
            simp only at k2 k3
            rw [hrec] at k2
            subst k2 k3
            simp [tryRecover, hkind, e1]
          · cases ha
      · cases ha
      · rename_i hn1 hn2
        split at ha
        · rename_i fr' hfin
          cases ha
          refine none_case fr' hfro ?_ hfin rfl
          have hmo := hcf.mode
          cases hcm : c.mode with
          | run => rw [hcm] at hmo; simp only [ModeR] at hmo; simp [tryRecover, hkind, hmo]
          | returning => rw [hcm] at hmo; simp only [ModeR] at hmo; simp [tryRecover, hkind, hmo]
          | panicking ch =>
            cases ch with
            | nil => exact absurd hcm hn2
            | cons p older => exact absurd hcm (hn1 p older)
        · cases ha
    · rename_i hro hdf
      have hfro : f.roundOf = none := by
        rcases A.fr.round with ⟨_, h⟩ | ⟨l, L, h, _⟩
        · exact h
        · rw [hro] at h; cases h
      have hkind : f.kind = .normal := by rw [A.fr.kind, hdf]
      split at ha
      · rename_i fr' hfin
        cases ha
        exact none_case fr' hfro (by simp [tryRecover, hkind]) hfin rfl
      · cases ha
    · cases ha
  | panic v =>
    simp only [applyA] at ha
    cases ha
    obtain ⟨u, hrun, hv⟩ := hr
    have hcase : f.roundOf = none ∨ ∀ c, o.op ≠ .defer c := .inr (fun c => hnd c (fun d e => by cases e))
    have hstep := step_panic (cs := cs ++ CS) hfm ht ho hw hcase hrun
    obtain ⟨g1, g2⟩ := raise_sound A.fr (vs := [{ v := v, recovered := false }]) (us := [{ v := u, recovered := false }]) ⟨_, [], rfl, hv, rfl, rfl, rfl⟩
    refine ⟨_, .one hstep, σ, _, cs, w, rfl, A.wr, A.gl, g1, A.cs, ?_⟩
    have := A.nd
    simp only [alsAll] at this ⊢
    rw [g2]; exact this
end
end Go.Vm
end
section
namespace Go.Vm

section
variable {E : Env} {W0 : World} {σ : Sig} {CS : List Frame}

theorem opA_sound (hE : EnvOK E) {h : T Obj} {next : Pos} {w : World} (H : WR W0 E.base σ h next w) {t : T AV} {o : Oper} {ρ : Operand → Value} (hev : ∀ x ∈ opsL o.op, EvOK σ E.base t ρ x) {res : Res} (ho : opA E h next t o = some res) :
    ResR W0 E.base σ next w res ((execOp ρ o).run E.P w) := by
  unfold opA at ho
  split at ho
  · split at ho
    · rename_i v hv
      cases ho
      obtain ⟨u, h1, h2⟩ := opS_sound H hev hv
      exact ⟨σ, u, w, .inl h1, Sub.refl σ, New.refl σ _ _, H, h2, Nat.le_refl _⟩
    · cases ho
  · exact opE_sound hE H hev ho
theorem opE_defer {h : T Obj} {next : Pos} {t : T AV} {o : Oper} {res : Res} (ho : opE E h next t o = some res) (c : Call) (hc : o.op = .defer c) : ∃ d, res = .defer d := by
  unfold opE at ho
  simp only [hc] at ho
  split at ho
  · split at ho
    · split at ho
      · cases ho; exact ⟨_, rfl⟩
      · cases ho
    · cases ho
  · cases ho
theorem opA_defer {h : T Obj} {next : Pos} {t : T AV} {o : Oper} {res : Res} (ho : opA E h next t o = some res) (c : Call) (hc : o.op = .defer c) : ∃ d, res = .defer d := by
  unfold opA at ho
  have : cls o = .eff := by unfold cls; rw [hc]
  rw [this] at ho
  exact opE_defer ho c hc

theorem wanted_plain {ops : List Oper} {ops' : Array Oper} (he : ops'.toList = ops) {t : T AV} {tmps : Array Value} (hT : TR σ t tmps (fun _ => True)) (o : Oper) : Region.wanted o (yielded ops' tmps) = guardOk ops t o :=
  guard_sound he (fun _ _ _ d _ _ _ => hT d trivial)

/-- What a step in a region does, in one word. -/
def regStep (E : Env) (s : St) (ops rest : List Oper) (k : List AItem) : Option St :=
  match runOps E s.fr.n ops rest s.h s.next s.fr.tmps with
  | some (h, next, t, rest', r) => match r with
    | none => some { s with fr := { s.fr with tmps := t, todo := k }, h, next }
    | some r => applyA E { s with fr := { s.fr with tmps := t, todo := .reg ops rest' :: k }, h, next } r
  | none => none

theorem reg_sound (hE : EnvOK E) (hH : HookOK E W0) (ops : List Oper) (k : List AItem) : ∀ (rest : List Oper) (s s' : St) (m : Machine), Stands E W0 CS s m → s.fr.mode = .run → s.fr.todo = .reg ops rest :: k → regStep E s ops rest k = some s' →
    ∃ m', Steps E.P m m' ∧ Stands E W0 CS s' m'
  | [], s, s', m, ⟨σ, f, cs, w, hmm, A⟩, hm, ht, hs => by
    subst hmm
    simp only [regStep, runOps, Option.some.injEq] at hs
    subst hs
    have hfm := mode_run A.fr hm
    obtain ⟨p1, p2⟩ := A.fr.top.plain (fun a k' e => by rw [ht] at e; cases e; rfl)
    rw [ht] at p1
    obtain ⟨it, K, e1, ⟨ops', todo, e2, hreg⟩, hK⟩ := p1
    subst e2
    have := regR_nil hreg
    subst this
    refine ⟨_, .one (step_regEnd hfm e1), σ, { f with todo := K }, cs, w, rfl, A.wr, A.gl, ⟨A.fr.fn, A.fr.size, TopR.of_plain hK p2, A.fr.defers, A.fr.mode, A.fr.kind, A.fr.round⟩, A.cs, ?_⟩
    have hn := A.nd
    simp only [alsAll] at hn ⊢
    have h1 : alsOf { s.fr with todo := k } = [] := alsOf_plain (σ := σ) (f := { f with todo := K }) hK
    rw [h1]
    exact (List.nodup_append.1 hn).2.1
  | o :: rest, s, s', m, ⟨σ, f, cs, w, hmm, A⟩, hm, ht, hs => by
    subst hmm
    have hfm := mode_run A.fr hm
    obtain ⟨p1, p2⟩ := A.fr.top.plain (fun a k' e => by rw [ht] at e; cases e; rfl)
    rw [ht] at p1
    obtain ⟨it, K, e1, ⟨ops', todo, e2, hreg⟩, hK⟩ := p1
    subst e2
    obtain ⟨i, todo', e3, ho, hreg'⟩ := regR_cons hreg
    subst e3
    have hw := wanted_plain (σ := σ) hreg.1 p2 o
    simp only [regStep, runOps] at hs
    cases hg : guardOk ops s.fr.tmps o with
    | false =>
      rw [hg] at hs hw
      simp only at hs
      cases hset : Vm.setDst s.fr.n s.fr.tmps o.dst undefA with
      | none => rw [hset] at hs; cases hs
      | some t' =>
        rw [hset] at hs
        simp only at hs
        have hfin : finishA s.fr undefA = some { s.fr with tmps := t', todo := .reg ops rest :: k } := by
          unfold finishA
          simp only [ht, hset]
        obtain ⟨g1, g2⟩ := finish_sound A.fr hfin (undefR σ)
        have hst : Stands E W0 CS { s with fr := { s.fr with tmps := t', todo := .reg ops rest :: k } } (lone (f.finish undef) (cs ++ CS) w) := by
          refine ⟨σ, _, cs, w, rfl, A.wr, A.gl, g1, A.cs, ?_⟩
          have := A.nd
          simp only [alsAll] at this ⊢
          rw [g2]; exact this
        obtain ⟨m', h1, h2⟩ := reg_sound hE hH ops k rest _ s' _ hst hm rfl hs
        exact ⟨m', .head (step_unwanted hfm e1 ho hw) h1, h2⟩
    | true =>
      rw [hg] at hs hw
      simp only at hs
      cases hop : opA E s.h s.next s.fr.tmps o with
      | none => rw [hop] at hs; cases hs
      | some r =>
        have hev : ∀ x ∈ opsL o.op, EvOK σ E.base s.fr.tmps f.eval x := by
          intro x _
          rw [Frame.eval_eq]
          exact EvOK.of A.gl x (fun k _ => p2 k trivial)
        have hres := opA_sound hE A.wr hev hop
        have happ := fun s' (ha : applyA E s r = some s') => apply_sound (CS := CS) hH A hm e1 ho hw (opA_defer hop) hres ha
        rw [hop] at hs
        have hself : { s with fr := { s.fr with tmps := s.fr.tmps, todo := .reg ops (o :: rest) :: k }, h := s.h, next := s.next } = s := by
          obtain ⟨⟨fn, n, tmps, todo, d, mo, de, ro⟩, c, hh, nx⟩ := s
          simp only at ht
          subst ht
          rfl
        cases r with
        | val v h1 n1 =>
          simp only at hs
          cases hset : Vm.setDst s.fr.n s.fr.tmps o.dst v with
          | none => rw [hset] at hs; cases hs
          | some t' =>
            rw [hset] at hs
            simp only at hs
            have hfin : applyA E s (.val v h1 n1) = some { s with fr := { s.fr with tmps := t', todo := .reg ops rest :: k }, h := h1, next := n1 } := by
              simp only [applyA, finishA, ht, hset]
            obtain ⟨m1, g1, g2⟩ := happ _ hfin
            obtain ⟨m', g3, g4⟩ := reg_sound hE hH ops k rest _ s' _ g2 hm rfl hs
            exact ⟨m', Steps.trans g1 g3, g4⟩
        | enter g args => simp only at hs; rw [hself] at hs; exact happ s' hs
        | round l lp args => simp only at hs; rw [hself] at hs; exact happ s' hs
        | defer d => simp only at hs; rw [hself] at hs; exact happ s' hs
        | recover => simp only at hs; rw [hself] at hs; exact happ s' hs
        | panic v => simp only at hs; rw [hself] at hs; exact happ s' hs
end
end Go.Vm
end
section
namespace Go.Vm

section
variable {P : Program} {f c : Frame} {cs : List Frame} {w w' : World} {K : List Item}

/-- How a frame comes to its end: at which jump. -/
def Ends (f : Frame) (jump : Option Code) : Prop :=
  (f.todo = [] ∧ jump = none) ∨ (∃ K, f.todo = .code .ret :: K ∧ jump = some .ret) ∨ (∃ n K, f.todo = .code (.exit n) :: K ∧ exitTo n K = none ∧ jump = some (.exit n)) ∨
    ∃ n K, f.todo = .code (.goto n) :: K ∧ gotoIn n K = none ∧ jump = some (.goto n)
theorem step_leaveRound {jump : Option Code} {b : Nat} {v : Value} (hm : f.mode = .run) (he : Ends f jump) (hr : f.roundOf = some b) (hk : f.kind = .normal) (hrun : (Instr.endRound b jump).run P w = .ok v w') :
    step P (lone f (c :: cs) w) = .next (lone (c.finish v) cs w') := by
  refine step_lone_go ?_
  rcases he with ⟨ht, rfl⟩ | ⟨K, ht, rfl⟩ | ⟨n, K, ht, hx, rfl⟩ | ⟨n, K, ht, hx, rfl⟩
  · simp [stepG, stepG.exec, hm, ht, hr, hrun, doReturn, hk]
  · simp [stepG, stepG.exec, hm, ht, hr, hrun, doReturn, hk]
  · simp [stepG, stepG.exec, hm, ht, hr, hrun, doReturn, hk, hx]
  · simp [stepG, stepG.exec, hm, ht, hr, hrun, doReturn, hk, hx]
theorem step_leave {jump : Option Code} (hm : f.mode = .run) (he : Ends f jump) (hr : f.roundOf = none) (hj : jump = none ∨ jump = some .ret) :
    step P (lone f cs w) = .next (lone { f with mode := .returning } cs w) := by
  refine step_lone_go ?_
  rcases he with ⟨ht, rfl⟩ | ⟨K, ht, rfl⟩ | ⟨n, K, ht, hx, rfl⟩ | ⟨n, K, ht, hx, rfl⟩
  · simp [stepG, stepG.exec, hm, ht, hr]
  · simp [stepG, stepG.exec, hm, ht, hr]
  · rcases hj with h | h <;> cases h
  · rcases hj with h | h <;> cases h
theorem step_beginRound {b : Nat} {r : Loop} (hm : f.mode = .run) (ht : f.todo = .beginRound :: K) (hr : f.roundOf = some b) (hl : w.heap[b]? = some (.loop r)) (hst : r.state = .ready) :
    step P (lone f cs w) = .next (lone { f with todo := K } cs (setB w b (.loop { r with state := .busy }))) := by
  have hrun : (Instr.beginRound b).run P w = .ok () (setB w b (.loop { r with state := .busy })) := by
    simp only [Instr.beginRound, Instr.getLoop, Sem.run_bind, getObj, Sem.run, hl, Result.andThen_ok, Sem.run_pure, Go.setObj, hst]
    rfl
  refine step_lone_go ?_
  simp only [stepG, hm, stepG.exec, ht, hr, Option.elim]
  simp [stepG.apply, hrun, Frame.finish, ht, hm, hr]
theorem step_endRange {b : Nat} {r : Loop} (hm : f.mode = .run) (ht : f.todo = .endRangeFunc b :: K) (hl : w.heap[b]? = some (.loop r)) (hst : r.state ≠ .busy) :
    step P (lone f cs w) = .next (lone { f with todo := (r.pending.map Item.code).toList ++ K } cs (setB w b (.loop { r with state := .exhausted }))) := by
  have hrun : (Instr.endLoop b).run P w = .ok r.pending (setB w b (.loop { r with state := .exhausted })) := by
    have hb : (r.state == .busy) = false := by cases h : r.state <;> first | rfl | exact absurd h hst
    simp only [Instr.endLoop, Instr.getLoop, Sem.run_bind, getObj, Sem.run, hl, Result.andThen_ok, Sem.run_pure, hb, Bool.false_eq_true, if_false, Go.setObj]
    rfl
  refine step_lone_go ?_
  simp [stepG, hm, stepG.exec, ht, hrun]
theorem step_rangeFunc {x : Operand} {params : Array Tmp} {a b : Code} {g : FuncId} {args : Array Value} {d : Deferred} (hm : f.mode = .run) (ht : f.todo = .code (.rangeFunc x params a b) :: K) (hr : f.roundOf = none)
    (hd : (Deferred.ofValue (f.eval x) #[.func (.yield (w.heap.size + 1)) #[] #[]]).run P ((w.alloc (.deferred (some []))).alloc (.loop { state := .ready, pending := none, fn := f.fn, tmps := f.tmps, params := params, assign := a, body := b, defers := w.heap.size })) =
      .ok d ((w.alloc (.deferred (some []))).alloc (.loop { state := .ready, pending := none, fn := f.fn, tmps := f.tmps, params := params, assign := a, body := b, defers := w.heap.size })))
    (hi : (invoke d.target d.args).run P ((w.alloc (.deferred (some []))).alloc (.loop { state := .ready, pending := none, fn := f.fn, tmps := f.tmps, params := params, assign := a, body := b, defers := w.heap.size })) =
      .ok (.enter g args) ((w.alloc (.deferred (some []))).alloc (.loop { state := .ready, pending := none, fn := f.fn, tmps := f.tmps, params := params, assign := a, body := b, defers := w.heap.size }))) :
    step P (lone f cs w) = .next (lone (Frame.enter P g args .normal) ({ f with todo := .inRangeFunc (w.heap.size + 1) :: K, defers := { target := .collected w.heap.size, args := #[] } :: f.defers } :: cs)
      ((w.alloc (.deferred (some []))).alloc (.loop { state := .ready, pending := none, fn := f.fn, tmps := f.tmps, params := params, assign := a, body := b, defers := w.heap.size }))) := by
  have hrun : (Instr.enterLoop f.fn f.tmps params a b none).run P w = .ok (w.heap.size + 1, [{ target := .collected w.heap.size, args := #[] }])
      ((w.alloc (.deferred (some []))).alloc (.loop { state := .ready, pending := none, fn := f.fn, tmps := f.tmps, params := params, assign := a, body := b, defers := w.heap.size })) := by
    simp [Instr.enterLoop]
  generalize (w.alloc (.deferred (some []))).alloc (.loop { state := .ready, pending := none, fn := f.fn, tmps := f.tmps, params := params, assign := a, body := b, defers := w.heap.size }) = W at *
  refine step_lone_go ?_
  have hev : ({ fn := f.fn, tmps := f.tmps, todo := .inRangeFunc (w.heap.size + 1) :: K, defers := { target := .collected w.heap.size, args := #[] } :: f.defers, mode := .run, kind := f.kind, roundOf := none } : Frame).eval = f.eval := by
    rw [Frame.eval_eq, Frame.eval_eq]
  have hres : (resolve f.eval { callee := .value x, args := #[.const (.func (.yield (w.heap.size + 1)) #[] #[])], argTypes := #[] } 0).run P W = .ok d W := by
    have hc : f.eval (.const (.func (.yield (w.heap.size + 1)) #[] #[])) = .func (.yield (w.heap.size + 1)) #[] #[] := rfl
    simpa [resolve, hc] using hd
  simp only [stepG, hm, stepG.exec, ht, hr]
  simp [hrun, stepG.apply, hev, hres, hi, hm, hr]
end
end Go.Vm
end
section
namespace Go.Vm

section
variable {P : Program} {f c : Frame} {cs : List Frame} {w w' : World} {K : List Item}

theorem step_collected {b : Nat} {a : Array Value} {ds l : List Deferred} (hm : f.mode ≠ .run) (hd : f.defers = { target := .collected b, args := a } :: ds) (hb : w.heap[b]? = some (.deferred (some l))) :
    step P (lone f cs w) = .next (lone { f with defers := l ++ ds } cs (setB w b (.deferred none))) := by
  have hrun : (Instr.takeDeferred b).run P w = .ok l (setB w b (.deferred none)) := by
    simp only [Instr.takeDeferred, Sem.run_bind, getObj, Sem.run, hb, Result.andThen_ok, Sem.run_pure, Go.setObj]
    rfl
  refine step_lone_go ?_
  cases hmm : f.mode with
  | run => exact absurd hmm hm
  | returning => simp [stepG, hmm, unwind, hd, hrun]
  | panicking ch => simp [stepG, hmm, unwind, hd, hrun]
theorem step_callDeferred {fn : Fn} {cap a : Array Value} {ds : List Deferred} {g : FuncId} {args : Array Value} (hm : f.mode ≠ .run) (hd : f.defers = { target := .fn fn cap, args := a } :: ds)
    (hi : (invoke (.fn fn cap) a).run P w = .ok (.enter g args) w) : step P (lone f cs w) = .next (lone (Frame.enter P g args .deferred) ({ f with defers := ds } :: cs) w) := by
  refine step_lone_go ?_
  cases hmm : f.mode with
  | run => exact absurd hmm hm
  | returning => simp [stepG, hmm, unwind, hd, callDeferred, hi]
  | panicking ch => simp [stepG, hmm, unwind, hd, callDeferred, hi]
theorem step_passOn {ch : List PanicEntry} (hm : f.mode = .panicking ch) (hd : f.defers = []) (hc : f.catches P = false) : step P (lone f (c :: cs) w) = .next (lone (c.raise ch) cs w) :=
  step_lone_go (by simp [stepG, hm, unwind, hd, hc])
theorem step_backNormal {fn : Func} {v : Value} (hm : f.mode = .returning) (hd : f.defers = []) (hk : f.kind = .normal) (hf : P.funcs[f.fn]? = some fn) (hr : (results fn f.tmps).run P w = .ok v w) :
    step P (lone f (c :: cs) w) = .next (lone (c.finish v) cs w) :=
  step_lone_go (by simp [stepG, unwind, doReturn, hm, hd, hk, hf, hr])
theorem step_backSame {fn : Func} {v : Value} (hm : f.mode = .returning) (hd : f.defers = []) (hk : f.kind = .deferred) (hf : P.funcs[f.fn]? = some fn) (hr : (results fn f.tmps).run P w = .ok v w)
    (hc : ∀ v g older, c.mode ≠ .panicking ({ v := v, recovered := true, goexit := g } :: older)) : step P (lone f (c :: cs) w) = .next (lone c cs w) :=
  step_lone_go (by
    cases hcm : c.mode with
    | run => simp [stepG, unwind, doReturn, hm, hd, hk, hf, hr, hcm]
    | returning => simp [stepG, unwind, doReturn, hm, hd, hk, hf, hr, hcm]
    | panicking ch =>
      cases ch with
      | nil => simp [stepG, unwind, doReturn, hm, hd, hk, hf, hr, hcm]
      | cons p older =>
        obtain ⟨pv, pr, pg⟩ := p
        cases pr with
        | true => exact absurd hcm (hc _ _ _)
        | false => simp [stepG, unwind, doReturn, hm, hd, hk, hf, hr, hcm])
theorem step_backRec {fn : Func} {v pv : Value} {g : Bool} {older : List PanicEntry} (hm : f.mode = .returning) (hd : f.defers = []) (hk : f.kind = .deferred) (hf : P.funcs[f.fn]? = some fn) (hr : (results fn f.tmps).run P w = .ok v w)
    (hc : c.mode = .panicking ({ v := pv, recovered := true, goexit := g } :: older)) (ho : older.dropWhile (fun x => !x.goexit) = []) : step P (lone f (c :: cs) w) = .next (lone { c with mode := .returning } cs w) :=
  step_lone_go (by simp [stepG, unwind, doReturn, hm, hd, hk, hf, hr, hc, ho])
end

section
variable {E : Env} {W0 : World} {σ : Sig} {CS : List Frame} {base : Nat} {next : Pos}

theorem catches_false {P : Program} {fr : AFrame} {f : Frame} (h : TopR σ base next fr f) : f.catches P = false := by
  have hnc : ∀ d a b c k, f.todo ≠ .call d a b c :: k := by
    intro d a b c k e
    unfold TopR at h
    split at h
    · obtain ⟨_, _, _, h1, _⟩ := h; rw [h1] at e; cases e
    · obtain ⟨_, _, _, h1, _⟩ := h; rw [h1] at e; cases e
    · obtain ⟨h1, _⟩ := h
      rw [e] at h1
      cases ht : fr.todo with
      | nil => rw [ht] at h1; simp only [IRs] at h1; cases h1
      | cons x xs =>
        rw [ht] at h1
        obtain ⟨i, l', e1, h2, _⟩ := h1
        cases e1
        cases x <;> simp only [IR] at h2 <;> first
          | (cases h2; done)
          | (obtain ⟨_, _, h3, _⟩ := h2; cases h3; done)
          | (obtain ⟨_, _, h3⟩ := h2; cases h3; done)
          | exact h2
  unfold Frame.catches
  split
  · rename_i e; exact absurd e (hnc _ _ _ _ _)
  · rfl

/-- Results are known. -/
theorem results_known {rs : List ResultVar} {fr : AFrame} {f : Frame} (h : TopR σ base next fr f) (hd : drawTop rs fr.todo = true) : ∀ r ∈ rs, RV σ (tget fr.tmps (match r with | .tmp k => k | .cell a _ => a)) (f.tmps.getD (match r with | .tmp k => k | .cell a _ => a) undef) := by
  have free : ∀ (ops : List Oper) (k : Nat), freeIn k ops = true → ∀ j, dstOf ops j ≠ some k := by
    intro ops
    induction ops with
    | nil => intro k _ j e; simp [dstOf] at e
    | cons o ops ih =>
      intro k hk j e
      simp only [freeIn, Bool.and_eq_true] at hk
      cases j with
      | zero =>
        simp only [dstOf, List.getElem?_cons_zero, Option.bind_some] at e
        rw [e] at hk
        simp at hk
      | succ j => exact ih k hk.2 j (by simpa [dstOf] using e)
  have resf : ∀ (ops : List Oper) (rs : List ResultVar), resFree ops rs = true → ∀ r ∈ rs, freeIn (match r with | .tmp k => k | .cell a _ => a) ops = true := by
    intro ops rs
    induction rs with
    | nil => intro _ r hr; cases hr
    | cons x rs ih =>
      intro hx r hr
      simp only [resFree, Bool.and_eq_true] at hx
      cases hr with
      | head => cases x <;> exact hx.1
      | tail _ hm => exact ih hx.2 r hm
  intro r hr
  unfold TopR at h
  unfold drawTop at hd
  split at h
  · rename_i ops bs last effs done als k e
    rw [e] at hd
    obtain ⟨_, rem, _, _, _, _, hD⟩ := h
    exact hD.htmps _ (fun j _ e2 => absurd e2 (free ops _ (resf ops rs hd r hr) j))
  · rename_i ops bs last effs done als k e
    rw [e] at hd
    obtain ⟨_, rem, _, _, _, _, hD, _⟩ := h
    exact hD.htmps _ (fun j _ e2 => absurd e2 (free ops _ (resf ops rs hd r hr) j))
  · exact h.2 _ trivial

theorem resA_sound {P : Program} {w : World} {h : T Obj} (H : WR W0 base σ h next w) {t : T AV} {tmps : Array Value} : ∀ (rs : List ResultVar) (vs : List AV), (∀ r ∈ rs, RV σ (tget t (match r with | .tmp k => k | .cell a _ => a)) (tmps.getD (match r with | .tmp k => k | .cell a _ => a) undef)) →
    resA P t h rs = some vs → ∃ us : List Value, (rs.mapM (m := Sem) fun
      | .tmp t => pure (tmps.getD t undef)
      | .cell a t => do loadVar t (← asAddr (tmps.getD a undef))).run P w = .ok us w ∧ RVs σ vs us
  | [], vs, _, hr => by
    simp only [resA, Option.some.injEq] at hr
    subst hr
    exact ⟨[], rfl, RVs.nil⟩
  | r :: rs, vs, hk, hr => by
    simp only [resA] at hr
    split at hr
    · rename_i v hv
      split at hr
      · rename_i k hk2
        cases hr
        obtain ⟨us, h1, h2⟩ := resA_sound H rs k (fun r hr => hk r (by simp [hr])) hk2
        have hr0 := hk r (by simp)
        cases r with
        | tmp k =>
          simp only [Option.some.injEq] at hv
          subst hv
          refine ⟨tmps.getD k undef :: us, ?_, RVs.cons hr0 h2⟩
          rw [List.mapM_cons]
          simp only [Sem.run_bind, Sem.run_pure, Result.andThen_ok, h1]
        | cell a ty =>
          simp only at hv
          obtain ⟨ad, u, e1, h3, h4⟩ := loadA_sound (P := P) H hr0 hv
          refine ⟨u :: us, ?_, RVs.cons h4 h2⟩
          rw [List.mapM_cons]
          simp only at e1
          have ha : (asAddr (tmps.getD a undef)).run P w = .ok ad w := by rw [e1]; rfl
          simp only [Sem.run_bind, ha, Sem.run_pure, Result.andThen_ok, h3, h1]
      · cases hr
    · cases hr
theorem results_sound {P : Program} {w : World} {h : T Obj} (H : WR W0 base σ h next w) {fr : AFrame} {f : Frame} (hT : TopR σ base next fr f) {fn : Func} (hd : drawTop fn.results.toList fr.todo = true) {vs : List AV} (hr : resA P fr.tmps h fn.results.toList = some vs) :
    ∃ u, (results fn f.tmps).run P w = .ok u w ∧ RV σ (resV vs) u := by
  obtain ⟨us, h1, h2⟩ := resA_sound (P := P) H fn.results.toList vs (results_known hT hd) hr
  have hlen := RVs.length h2
  refine ⟨(if h : us.toArray.size = 1 then us.toArray[0] else .tuple us.toArray), ?_, ?_⟩
  · unfold results
    rw [Array.mapM_eq_mapM_toList, Sem.run_bind, Sem.run_map]
    erw [h1]
    rfl
  · cases vs with
    | nil =>
      rw [RVs.nil_inv h2]
      simp only [resV, RV]
      exact ⟨[], rfl, RVs.nil⟩
    | cons v vs =>
      obtain ⟨u, us', rfl, h3, h4⟩ := RVs.cons_inv h2
      cases vs with
      | nil =>
        rw [RVs.nil_inv h4]
        exact h3
      | cons v2 vs =>
        obtain ⟨u2, us2, rfl, h5, h6⟩ := RVs.cons_inv h4
        simp only [resV, RV]
        exact ⟨u :: u2 :: us2, rfl, h2⟩
end
end Go.Vm
end
section
namespace Go.Vm

section
variable {E : Env} {W0 : World} {σ : Sig} {CS : List Frame}

theorem nd_plain {fr fr' : AFrame} {cs : List AFrame} (h : (alsAll (fr :: cs)).Nodup) (h' : alsOf fr' = []) : (alsAll (fr' :: cs)).Nodup := by
  simp only [alsAll] at h ⊢
  rw [h']
  exact (List.nodup_append.1 h).2.1
theorem stands_todo {s : St} {f : Frame} {cs : List Frame} {w : World} (A : At E W0 σ s f cs w) {t' : List AItem} {T' : List Item} (hT : IRs σ t' T') (hR : TR σ s.fr.tmps f.tmps (fun _ => True)) :
    Stands E W0 CS { s with fr := { s.fr with todo := t' } } (lone { f with todo := T' } (cs ++ CS) w) :=
  ⟨σ, { f with todo := T' }, cs, w, rfl, A.wr, A.gl, ⟨A.fr.fn, A.fr.size, TopR.of_plain hT hR, A.fr.defers, A.fr.mode, A.fr.kind, A.fr.round⟩, A.cs, nd_plain A.nd (alsOf_plain (σ := σ) (fr := { s.fr with todo := t' }) (f := { f with todo := T' }) hT)⟩

theorem exit_sound (n : Nat) : ∀ (k k' : List AItem) (K : List Item), IRs σ k K → exitA n k = some k' → ∃ K', exitTo n K = some K' ∧ IRs σ k' K'
  | [], k', K, _, he => by simp [exitA] at he
  | x :: k, k', K, h, he => by
    obtain ⟨i, l', rfl, h1, h2⟩ := h
    unfold exitA at he
    split at he
    · rename_i m
      simp only [IR] at h1
      subst h1
      split at he
      · rename_i hb
        cases he
        have := Nat.eq_of_beq_eq_true hb
        subst this
        exact ⟨l', by simp [exitTo], h2⟩
      · rename_i hb
        have hne := Nat.ne_of_beq_eq_false hb
        obtain ⟨K', g1, g2⟩ := exit_sound n k k' l' h2 he
        exact ⟨K', by simp [exitTo, hne, g1], g2⟩
    · rename_i hx
      obtain ⟨K', g1, g2⟩ := exit_sound n k k' l' h2 he
      refine ⟨K', ?_, g2⟩
      cases x <;> simp only [IR] at h1 <;> first
        | (exact absurd rfl (hx _))
        | (subst h1; simpa [exitTo] using g1)
        | (obtain ⟨_, _, rfl, _⟩ := h1; simpa [exitTo] using g1)
        | (obtain ⟨_, _, rfl⟩ := h1; simpa [exitTo] using g1)
        | exact h1.elim
theorem exit_none (n : Nat) : ∀ (k : List AItem) (K : List Item), IRs σ k K → exitA n k = none → exitTo n K = none
  | [], K, h, _ => by simp only [IRs] at h; subst h; rfl
  | x :: k, K, h, he => by
    obtain ⟨i, l', rfl, h1, h2⟩ := h
    unfold exitA at he
    split at he
    · rename_i m
      simp only [IR] at h1
      subst h1
      split at he
      · cases he
      · rename_i hb
        have hne := Nat.ne_of_beq_eq_false hb
        simp [exitTo, hne, exit_none n k l' h2 he]
    · rename_i hx
      have g1 := exit_none n k l' h2 he
      cases x <;> simp only [IR] at h1 <;> first
        | (exact absurd rfl (hx _))
        | (subst h1; simpa [exitTo] using g1)
        | (obtain ⟨_, _, rfl, _⟩ := h1; simpa [exitTo] using g1)
        | (obtain ⟨_, _, rfl⟩ := h1; simpa [exitTo] using g1)
        | exact h1.elim
theorem goto_sound (n : Nat) : ∀ (k k' : List AItem) (K : List Item), IRs σ k K → gotoA n k = some k' → ∃ K', gotoIn n K = some K' ∧ IRs σ k' K'
  | [], k', K, _, he => by simp [gotoA] at he
  | x :: k, k', K, h, he => by
    obtain ⟨i, l', rfl, h1, h2⟩ := h
    unfold gotoA at he
    split at he
    · rename_i body
      simp only [IR] at h1
      subst h1
      split at he
      · rename_i rest hf
        cases he
        exact ⟨.code rest :: .inScope body :: l', by simp [gotoIn, hf], _, _, rfl, rfl, _, _, rfl, rfl, h2⟩
      · rename_i hf
        obtain ⟨K', g1, g2⟩ := goto_sound n k k' l' h2 he
        exact ⟨K', by simp [gotoIn, hf, g1], g2⟩
    · rename_i hx
      obtain ⟨K', g1, g2⟩ := goto_sound n k k' l' h2 he
      refine ⟨K', ?_, g2⟩
      cases x <;> simp only [IR] at h1 <;> first
        | (exact absurd rfl (hx _))
        | (subst h1; simpa [gotoIn] using g1)
        | (obtain ⟨_, _, rfl, _⟩ := h1; simpa [gotoIn] using g1)
        | (obtain ⟨_, _, rfl⟩ := h1; simpa [gotoIn] using g1)
        | exact h1.elim
theorem goto_none (n : Nat) : ∀ (k : List AItem) (K : List Item), IRs σ k K → gotoA n k = none → gotoIn n K = none
  | [], K, h, _ => by simp only [IRs] at h; subst h; rfl
  | x :: k, K, h, he => by
    obtain ⟨i, l', rfl, h1, h2⟩ := h
    unfold gotoA at he
    split at he
    · rename_i body
      simp only [IR] at h1
      subst h1
      split at he
      · cases he
      · rename_i hf
        simp [gotoIn, hf, goto_none n k l' h2 he]
    · rename_i hx
      have g1 := goto_none n k l' h2 he
      cases x <;> simp only [IR] at h1 <;> first
        | (exact absurd rfl (hx _))
        | (subst h1; simpa [gotoIn] using g1)
        | (obtain ⟨_, _, rfl, _⟩ := h1; simpa [gotoIn] using g1)
        | (obtain ⟨_, _, rfl⟩ := h1; simpa [gotoIn] using g1)
        | exact h1.elim

theorem loop_turn {base : Nat} {h : T Obj} {next : Pos} {w : World} (H : WR W0 base σ h next w) {g : Pos} {L : Loc} (hL : σ g 0 = some L) (hgb : base < g.val) {lp lp' : ALoop} (hg : h.get g = some (.loop lp)) {l : Loop} (hl : LR σ lp' l) :
    WR W0 base σ (h.set (.loop lp') g) next (setB w L.blk (.loop l)) := by
  refine H.turn hL hgb _ _ ?_
  intro v' L' hL'
  obtain ⟨rfl, _⟩ := H.obj _ _ _ _ hL' hg
  rw [hL] at hL'
  cases hL'
  rw [if_pos rfl]
  exact ⟨rfl, l, rfl, hl⟩

theorem loopAt_sound {base : Nat} {h : T Obj} {l : Pos} {lp : ALoop} (hl : loopAt base h l = some lp) : base < l.val ∧ h.get l = some (.loop lp) := by
  unfold loopAt at hl
  split at hl
  · cases hl
  · rename_i ho
    split at hl
    · rename_i e
      cases hl
      exact ⟨old_false ho, e⟩
    · cases hl
theorem deferredAt_sound {base : Nat} {h : T Obj} {l : Pos} {ds : List ADef} (hl : deferredAt base h l = some ds) : base < l.val ∧ h.get l = some (.deferred (some ds)) := by
  unfold deferredAt at hl
  split at hl
  · cases hl
  · rename_i ho
    split at hl
    · rename_i e
      cases hl
      exact ⟨old_false ho, e⟩
    · cases hl

/-- A frame's own end. -/
theorem leave_sound {s s' : St} {f : Frame} {cs : List Frame} {w : World} (A : At E W0 σ s f cs w) (hm : s.fr.mode = .run) {jump : Option Code} (he : Ends f jump) (hl : leaveA E.base s jump = some s') :
    ∃ m', Steps E.P (lone f (cs ++ CS) w) m' ∧ Stands E W0 CS s' m' := by
  have hfm := mode_run A.fr hm
  unfold leaveA at hl
  have ret : f.roundOf = none → (jump = none ∨ jump = some .ret) → s' = { s with fr := { s.fr with mode := .returning } } → ∃ m', Steps E.P (lone f (cs ++ CS) w) m' ∧ Stands E W0 CS s' m' := by
    intro hr hj e
    subst e
    exact ⟨_, .one (step_leave hfm he hr hj), σ, { f with mode := .returning }, cs, w, rfl, A.wr, A.gl, ⟨A.fr.fn, A.fr.size, A.fr.top, A.fr.defers, rfl, A.fr.kind, A.fr.round⟩, A.cs, A.nd⟩
  split at hl
  · rename_i hro
    have hfro : f.roundOf = none := by
      rcases A.fr.round with ⟨_, h⟩ | ⟨l, L, h, _⟩
      · exact h
      · rw [hro] at h; cases h
    split at hl
    · cases hl; exact ret hfro (.inl rfl) rfl
    · cases hl; exact ret hfro (.inr rfl) rfl
    · cases hl
  · rename_i l hro
    obtain ⟨L, hL, hfro⟩ : ∃ L, σ l 0 = some L ∧ f.roundOf = some L.blk := by
      rcases A.fr.round with ⟨h, _⟩ | ⟨l', L, h, h2, h3⟩
      · rw [hro] at h; cases h
      · rw [hro] at h; cases h; exact ⟨L, h2, h3⟩
    split at hl
    · rename_i lp hlp
      obtain ⟨hgb, hg⟩ := loopAt_sound hlp
      split at hl
      · rename_i c rest hcs
        split at hl
        · rename_i hdf
          split at hl
          · rename_i c' hfin
            cases hl
            have hc := A.cs
            rw [hcs] at hc
            obtain ⟨cf, cs', rfl, hcf, hcs'⟩ := hc
            obtain ⟨_, lc, h1, h2⟩ := A.wr.obj _ _ _ _ hL hg
            have hkind : f.kind = .normal := by rw [A.fr.kind, hdf]
            have hjn : isNoneC jump = jump.isNone := by cases jump <;> rfl
            have hrun : (Instr.endRound L.blk jump).run E.P w = .ok (.bool jump.isNone) (setB w L.blk (.loop { lc with state := if jump.isNone then .ready else .done, pending := jump })) := by
              simp only [Instr.endRound, Instr.getLoop, Sem.run_bind, getObj, Sem.run, h1, Result.andThen_ok, Sem.run_pure, Go.setObj]
              rfl
            have hstep := step_leaveRound (c := cf) (cs := cs' ++ CS) hfm he hfro hkind hrun
            obtain ⟨g1, g2⟩ := finish_sound hcf hfin (u := .bool jump.isNone) (by simp only [RV, hjn])
            refine ⟨_, .one hstep, σ, _, cs', _, rfl, ?_, A.gl, g1, hcs', ?_⟩
            · refine loop_turn A.wr hL hgb hg ⟨?_, rfl, h2.fn, h2.size, h2.tmps, h2.params, h2.assign, h2.body, h2.defers⟩
              cases jump <;> rfl
            · have hn := A.nd
              rw [hcs] at hn
              simp only [alsAll] at hn ⊢
              rw [g2]
              exact (List.nodup_append.1 hn).2.1
          · cases hl
        · cases hl
      · cases hl
    · cases hl
end
end Go.Vm
end
section
namespace Go.Vm

/-- What a state with a drawn region ahead does. -/
def drawStep (E : Env) (s : St) (ops : List Oper) (bs : List Nat) (last : Option Nat) (todo done : List Nat) (als : List (Nat × Pos)) (k : List AItem) : Option St :=
  match drawA E s.fr.n bs ops (smalls bs last todo ops 0) { h := s.h, next := s.next, t := s.fr.tmps, done, als } with
  | some d => match todo with
    | [] => some { s with fr := { s.fr with tmps := d.t, todo := k }, h := d.h, next := d.next }
    | i :: rest => match nth i ops with
      | some o => match seesOk bs d.done ops i o with
        | true => match guardOk ops d.t o with
          | true => match opE E d.h d.next d.t o with
            | some r => applyA E { s with fr := { s.fr with tmps := d.t, todo := .drawIn ops bs i rest d.done d.als :: k }, h := d.h, next := d.next } r
            | none => none
          | false => match setDst s.fr.n d.t o.dst undefA with
            | some t => some { s with fr := { s.fr with tmps := t, todo := .draw ops bs (some i) rest d.done d.als :: k }, h := d.h, next := d.next }
            | none => none
        | false => none
      | none => none
  | none => none
structure DrawOK (E : Env) (W0 : World) (CS : List Frame) : Prop where
  step : ∀ (s s' : St) (m : Machine) ops bs last todo done als k, Stands E W0 CS s m → s.fr.mode = .run → s.fr.todo = .draw ops bs last todo done als :: k → drawStep E s ops bs last todo done als k = some s' →
    ∃ m', Steps E.P m m' ∧ Stands E W0 CS s' m'
  start : ∀ (s : St) (m : Machine) id ops k bs es, Stands E W0 CS s m → s.fr.mode = .run → s.fr.todo = .code (.region id ops true) :: k → planOf ops.toList = some (bs, es) →
    ∃ m', Steps E.P m m' ∧ Stands E W0 CS { s with fr := { s.fr with todo := .draw ops.toList bs none es [] [] :: k } } m'

section
variable {E : Env} {W0 : World} {σ : Sig} {CS : List Frame}

theorem range_sound (hE : EnvOK E) {s s' : St} {f : Frame} {cs : List Frame} {w : World} (A : At E W0 σ s f cs w) (hm : s.fr.mode = .run) {x : Operand} {params : Array Tmp} {a b : Code} {k : List AItem} {K : List Item}
    (hf : f.todo = .code (.rangeFunc x params a b) :: K) (hK : IRs σ k K) (hT : TR σ s.fr.tmps f.tmps (fun _ => True)) (hs : rangeA E s x params a b k = some s') :
    ∃ m', Steps E.P (lone f (cs ++ CS) w) m' ∧ Stands E W0 CS s' m' := by
  have hfm := mode_run A.fr hm
  unfold rangeA at hs
  split at hs
  · rename_i fv hfv
    split at hs
    · rename_i hro
      have hfro : f.roundOf = none := by
        rcases A.fr.round with ⟨_, h⟩ | ⟨l, L, h, _⟩
        · exact h
        · rw [hro] at h; cases h
      simp only at hs
      split at hs
      · rename_i g args hinv
        split at hs
        · rename_i fr' hent
          cases hs
          -- the two new blocks
          have hn1 : s.next.val ≤ s.next.succ.val := by rw [Pos.val_succ]; omega
          have hn2 : s.next.succ.val ≤ s.next.succ.succ.val := by rw [Pos.val_succ, Pos.val_succ]; omega
          have hsub1 := put_sub σ s.next 0 ⟨w.heap.size, 0, 0, 0⟩ (A.wr.fresh 0)
          have W1 : WR W0 E.base (put σ s.next 0 ⟨w.heap.size, 0, 0, 0⟩) (s.h.set (.deferred (some [])) s.next) s.next.succ (w.alloc (.deferred (some []))) := by
            refine A.wr.alloc A.wr.fresh A.wr.nextp _ hn1 (by rw [Pos.val_succ]; omega) _ _ rfl _ ?_ ?_
            · intro q hq; rw [T.get_set, if_neg (Ne.symm hq)]
            · intro o ho
              rw [T.get_set, if_pos rfl] at ho
              cases ho
              exact ⟨rfl, [], rfl, rfl⟩
          generalize hσ1 : put σ s.next 0 ⟨w.heap.size, 0, 0, 0⟩ = σ1 at *
          have hs1 : σ1 s.next 0 = some ⟨w.heap.size, 0, 0, 0⟩ := by rw [← hσ1]; exact put_same _ _ _ _
          have hsub2 := put_sub σ1 s.next.succ 0 ⟨w.heap.size + 1, 0, 0, 0⟩ (W1.fresh 0)
          have hlr : LR (put σ1 s.next.succ 0 ⟨w.heap.size + 1, 0, 0, 0⟩) { state := .ready, pending := none, fn := s.fr.fn, n := s.fr.n, tmps := s.fr.tmps, params := params.toList, assign := a, body := b, defers := s.next }
              { state := .ready, pending := none, fn := f.fn, tmps := f.tmps, params := params, assign := a, body := b, defers := w.heap.size } :=
            ⟨rfl, rfl, A.fr.fn, A.fr.size, (hT.mono hsub1).mono hsub2, rfl, rfl, rfl, ⟨_, hsub2 _ _ _ hs1, rfl⟩⟩
          have W2 : WR W0 E.base (put σ1 s.next.succ 0 ⟨w.heap.size + 1, 0, 0, 0⟩) ((s.h.set (.deferred (some [])) s.next).set (.loop { state := .ready, pending := none, fn := s.fr.fn, n := s.fr.n, tmps := s.fr.tmps, params := params.toList, assign := a, body := b, defers := s.next }) s.next.succ) s.next.succ.succ
              ((w.alloc (.deferred (some []))).alloc (.loop { state := .ready, pending := none, fn := f.fn, tmps := f.tmps, params := params, assign := a, body := b, defers := w.heap.size })) := by
            refine W1.alloc W1.fresh W1.nextp _ hn2 (by have := Pos.val_succ s.next.succ; omega) _ _ (by simp) _ ?_ ?_
            · intro q hq; rw [T.get_set, if_neg (Ne.symm hq)]
            · intro o ho
              rw [T.get_set, if_pos rfl] at ho
              cases ho
              exact ⟨rfl, _, rfl, hlr⟩
          have hnew : New σ (put σ1 s.next.succ 0 ⟨w.heap.size + 1, 0, 0, 0⟩) s.next [] := by
            have n1 : New σ σ1 s.next [] := by rw [← hσ1]; exact put_new (Nat.le_refl _)
            have n2 : New σ1 (put σ1 s.next.succ 0 ⟨w.heap.size + 1, 0, 0, 0⟩) s.next.succ [] := put_new (Nat.le_refl _)
            exact n1.trans n2 hn1
          have hsub := hsub1.trans hsub2
          generalize hσ2 : put σ1 s.next.succ 0 ⟨w.heap.size + 1, 0, 0, 0⟩ = σ2 at *
          have hs2 : σ2 s.next.succ 0 = some ⟨w.heap.size + 1, 0, 0, 0⟩ := by rw [← hσ2]; exact put_same _ _ _ _
          have hle : s.next.val ≤ s.next.succ.succ.val := by omega
          have hev := EvOK.of (t := s.fr.tmps) (tmps := f.tmps) A.gl x (fun k _ => hT k trivial) fv hfv
          rw [← Frame.eval_eq] at hev
          have hyv : RVs σ2 [.yield s.next.succ] [.func (.yield (w.heap.size + 1)) #[] #[]] := RVs.cons (by simp only [RV]; exact ⟨_, hs2, rfl⟩) RVs.nil
          obtain ⟨d, h1, h2⟩ := invokeA_sound hE W2 (RV.mono hsub _ _ hev) hyv hinv
          obtain ⟨us, h3, h4⟩ := h2
          have hstep := step_rangeFunc (cs := cs ++ CS) hfm hf hfro h1 h3
          obtain ⟨g1, g2, g3⟩ := enter_sound (base := E.base) (next := s.next.succ.succ) h4 hent
          have hfr : FR σ2 E.base s.next.succ.succ { s.fr with todo := .inRange s.next.succ :: k, defers := .collected s.next :: s.fr.defers }
              { f with todo := .inRangeFunc (w.heap.size + 1) :: K, defers := { target := .collected w.heap.size, args := #[] } :: f.defers } := by
            refine ⟨A.fr.fn, A.fr.size, TopR.of_plain ⟨_, K, rfl, ⟨_, hs2, rfl⟩, hK.mono hsub⟩ (hT.mono hsub), ⟨_, f.defers, rfl, ⟨_, hsub2 _ _ _ hs1, rfl, rfl⟩, A.fr.defers.mono hsub⟩, A.fr.mode.mono hsub, A.fr.kind, ?_⟩
            rcases A.fr.round with h | ⟨l, L, h, _⟩
            · exact .inl h
            · rw [hro] at h; cases h
          refine ⟨_, .one hstep, σ2, _, { f with todo := .inRangeFunc (w.heap.size + 1) :: K, defers := { target := .collected w.heap.size, args := #[] } :: f.defers } :: cs, _, rfl, W2, A.gl.mono hsub, g1,
            ⟨_, cs, rfl, hfr, A.cs.mono (A := []) hsub hnew hle (fun g _ => by simp)⟩, ?_⟩
          have hn := A.nd
          simp only [alsAll] at hn ⊢
          rw [g2]
          exact (List.nodup_append.1 hn).2.1
        · cases hs
      · cases hs
    · cases hs
  · cases hs
end
end Go.Vm
end
section
namespace Go.Vm

section
variable {E : Env} {W0 : World} {CS : List Frame}

theorem PaR.noGoexit {σ : Sig} : ∀ {a : List APanic} {l : List PanicEntry}, PaR σ a l → l.dropWhile (fun x => !x.goexit) = []
  | [], _, h => by simp only [PaR] at h; subst h; rfl
  | _ :: _, _, ⟨p, l', h1, _, _, h4, h5⟩ => by
    subst h1
    have := PaR.noGoexit h5
    simp [List.dropWhile, h4, this]

theorem sim (hE : EnvOK E) (hH : HookOK E W0) (hD : DrawOK E W0 CS) {s s' : St} {m : Machine} (hm : Stands E W0 CS s m) (hs : stepA E s = some (.on s')) : ∃ m', Steps E.P m m' ∧ Stands E W0 CS s' m' := by
  have hm0 := hm
  obtain ⟨σ, f, cs, w, rfl, A⟩ := hm
  unfold stepA at hs
  split at hs
  · -- running
    rename_i hmode
    have hfm := mode_run A.fr hmode
    have onA_inv : ∀ (x : Option St), onA x = some (.on s') → x = some s' := by
      intro x hx
      cases x with
      | none => cases hx
      | some y => cases hx; rfl
    split at hs
    · -- nothing left
      rename_i htodo
      have htop := (A.fr.top.plain (fun a k e => by rw [htodo] at e; cases e)).1
      rw [htodo] at htop
      exact leave_sound A hmode (.inl ⟨htop, rfl⟩) (onA_inv _ hs)
    · rename_i x k htodo
      split at hs
      · -- code
        rename_i c
        obtain ⟨p1, p2⟩ := A.fr.top.plain (fun a k' e => by rw [htodo] at e; cases e; rfl)
        rw [htodo] at p1
        obtain ⟨it, K, e1, e2, hK⟩ := p1
        simp only [IR] at e2
        subst e2
        split at hs
        · exact leave_sound A hmode (.inr (.inl ⟨K, e1, rfl⟩)) (onA_inv _ hs)
        · cases hs; exact ⟨_, .one (step_skip hfm e1), stands_todo A hK p2⟩
        · cases hs; exact ⟨_, .one (step_label hfm e1), stands_todo A hK p2⟩
        · cases hs; exact ⟨_, .one (step_seq hfm e1), stands_todo A ⟨_, _, rfl, rfl, _, _, rfl, rfl, hK⟩ p2⟩
        · rename_i cc a b
          have hev : ∀ v, evalA E.base s.fr.tmps cc = some v → RV σ v (f.eval cc) := fun v hv => by
            rw [Frame.eval_eq]; exact EvOK.of A.gl cc (fun k _ => p2 k trivial) v hv
          split at hs
          · rename_i hc
            have h1 := hev _ hc
            simp only [RV] at h1
            cases hs
            exact ⟨_, .one (step_cond hfm e1 h1), stands_todo A ⟨_, _, rfl, rfl, hK⟩ p2⟩
          · rename_i hc
            have h1 := hev _ hc
            simp only [RV] at h1
            cases hs
            exact ⟨_, .one (step_cond hfm e1 h1), stands_todo A ⟨_, _, rfl, rfl, hK⟩ p2⟩
          · cases hs
        · cases hs; exact ⟨_, .one (step_block hfm e1), stands_todo A ⟨_, _, rfl, rfl, _, _, rfl, rfl, hK⟩ p2⟩
        · cases hs; exact ⟨_, .one (step_loop hfm e1), stands_todo A ⟨_, _, rfl, rfl, _, _, rfl, rfl, hK⟩ p2⟩
        · cases hs; exact ⟨_, .one (step_scope hfm e1), stands_todo A ⟨_, _, rfl, rfl, _, _, rfl, rfl, hK⟩ p2⟩
        · rename_i n
          split at hs
          · rename_i k' hx
            cases hs
            obtain ⟨K', g1, g2⟩ := exit_sound n k k' K hK hx
            exact ⟨_, .one (step_exit hfm e1 g1), stands_todo A g2 p2⟩
          · rename_i hx
            exact leave_sound A hmode (.inr (.inr (.inl ⟨n, K, e1, exit_none n k K hK hx, rfl⟩))) (onA_inv _ hs)
        · rename_i n
          split at hs
          · rename_i k' hx
            cases hs
            obtain ⟨K', g1, g2⟩ := goto_sound n k k' K hK hx
            exact ⟨_, .one (step_goto hfm e1 g1), stands_todo A g2 p2⟩
          · rename_i hx
            exact leave_sound A hmode (.inr (.inr (.inr ⟨n, K, e1, goto_none n k K hK hx, rfl⟩))) (onA_inv _ hs)
        · rename_i id ops d
          split at hs
          · cases hs
            refine ⟨_, .one (step_regionF hfm e1), stands_todo A ⟨_, K, rfl, ⟨ops, List.range ops.size, rfl, rfl, 0, Nat.zero_le _, ?_, rfl⟩, hK⟩ p2⟩
            simp [List.range_eq_range']
          · split at hs
            · rename_i bs es hp
              cases hs
              exact hD.start s _ id ops k bs es hm0 hmode htodo hp
            · cases hs
        · exact range_sound hE A hmode e1 hK p2 (onA_inv _ hs)
        · cases hs
      · -- out of a block
        obtain ⟨p1, p2⟩ := A.fr.top.plain (fun a k' e => by rw [htodo] at e; cases e; rfl)
        rw [htodo] at p1
        obtain ⟨it, K, e1, e2, hK⟩ := p1
        simp only [IR] at e2
        subst e2
        cases hs
        exact ⟨_, .one (step_outBlock hfm e1), stands_todo A hK p2⟩
      · obtain ⟨p1, p2⟩ := A.fr.top.plain (fun a k' e => by rw [htodo] at e; cases e; rfl)
        rw [htodo] at p1
        obtain ⟨it, K, e1, e2, hK⟩ := p1
        simp only [IR] at e2
        subst e2
        cases hs
        exact ⟨_, .one (step_outScope hfm e1), stands_todo A hK p2⟩
      · obtain ⟨p1, p2⟩ := A.fr.top.plain (fun a k' e => by rw [htodo] at e; cases e; rfl)
        rw [htodo] at p1
        obtain ⟨it, K, e1, e2, hK⟩ := p1
        simp only [IR] at e2
        subst e2
        cases hs
        exact ⟨_, .one (step_inLoop hfm e1), stands_todo A ⟨_, _, rfl, rfl, _, _, rfl, rfl, hK⟩ p2⟩
      · -- a region
        rename_i ops rest
        have hreg : regStep E s ops rest k = some s' := by
          unfold regStep
          split at hs
          · rename_i h next t rest' r hr
            rw [hr]
            split at hs
            · cases hs; rfl
            · exact onA_inv _ hs
          · cases hs
        exact reg_sound hE hH ops k rest s s' _ hm0 hmode htodo hreg
      · -- a drawn region
        rename_i ops bs last todo done als
        have hdr : drawStep E s ops bs last todo done als k = some s' := by
          unfold drawStep
          split at hs
          · rename_i d hd
            rw [hd]
            split at hs
            · cases hs; rfl
            · rename_i i rest
              simp only
              split at hs
              · rename_i o ho
                rw [ho]
                simp only
                split at hs
                · rename_i hsee
                  rw [hsee]
                  simp only
                  split at hs
                  · rename_i hg
                    rw [hg]
                    simp only
                    split at hs
                    · rename_i r hr
                      rw [hr]
                      exact onA_inv _ hs
                    · cases hs
                  · rename_i hg
                    rw [hg]
                    simp only
                    split at hs
                    · rename_i t ht
                      rw [ht]
                      cases hs; rfl
                    · cases hs
                · cases hs
              · cases hs
          · cases hs
        exact hD.step s s' _ ops bs last todo done als k hm0 hmode htodo hdr
      · cases hs
      · cases hs
      · -- the beginning of a round
        obtain ⟨p1, p2⟩ := A.fr.top.plain (fun a k' e => by rw [htodo] at e; cases e; rfl)
        rw [htodo] at p1
        obtain ⟨it, K, e1, e2, hK⟩ := p1
        simp only [IR] at e2
        subst e2
        split at hs
        · rename_i l hro
          obtain ⟨L, hL, hfro⟩ : ∃ L, σ l 0 = some L ∧ f.roundOf = some L.blk := by
            rcases A.fr.round with ⟨h, _⟩ | ⟨l', L, h, h2, h3⟩
            · rw [hro] at h; cases h
            · rw [hro] at h; cases h; exact ⟨L, h2, h3⟩
          split at hs
          · rename_i lp hlp
            obtain ⟨hgb, hg⟩ := loopAt_sound hlp
            obtain ⟨_, lc, h1, h2⟩ := A.wr.obj _ _ _ _ hL hg
            split at hs
            · rename_i hst
              cases hs
              have hst' : lc.state = .ready := by rw [h2.state, hst]; rfl
              have hT := A.fr
              refine ⟨_, .one (step_beginRound hfm e1 hfro h1 hst'), σ, { f with todo := K }, cs, _, rfl, loop_turn A.wr hL hgb hg ⟨rfl, h2.pending, h2.fn, h2.size, h2.tmps, h2.params, h2.assign, h2.body, h2.defers⟩, A.gl,
                ⟨A.fr.fn, A.fr.size, TopR.of_plain hK p2, A.fr.defers, A.fr.mode, A.fr.kind, A.fr.round⟩, A.cs, nd_plain A.nd (alsOf_plain (σ := σ) (fr := { s.fr with todo := k }) (f := { f with todo := K }) hK)⟩
            · cases hs
          · cases hs
        · cases hs
      · -- the end of a range
        rename_i l
        obtain ⟨p1, p2⟩ := A.fr.top.plain (fun a k' e => by rw [htodo] at e; cases e; rfl)
        rw [htodo] at p1
        obtain ⟨it, K, e1, ⟨L, hL, e2⟩, hK⟩ := p1
        subst e2
        split at hs
        · rename_i lp hlp
          obtain ⟨hgb, hg⟩ := loopAt_sound hlp
          obtain ⟨_, lc, h1, h2⟩ := A.wr.obj _ _ _ _ hL hg
          split at hs
          · cases hs
          · rename_i hst
            cases hs
            have hst' : lc.state ≠ .busy := by
              rw [h2.state]
              cases hls : lp.state <;> first
                | (exact absurd hls hst)
                | (intro h; cases h)
            have hIK : IRs σ (match lp.pending with | some j => .code j :: k | none => k) ((lc.pending.map Item.code).toList ++ K) := by
              rw [h2.pending]
              cases lp.pending with
              | none => exact hK
              | some j => exact ⟨_, K, rfl, rfl, hK⟩
            refine ⟨_, .one (step_endRange hfm e1 h1 hst'), σ, { f with todo := (lc.pending.map Item.code).toList ++ K }, cs, _, rfl,
              loop_turn A.wr hL hgb hg ⟨rfl, h2.pending, h2.fn, h2.size, h2.tmps, h2.params, h2.assign, h2.body, h2.defers⟩, A.gl,
              ⟨A.fr.fn, A.fr.size, TopR.of_plain hIK p2, A.fr.defers, A.fr.mode, A.fr.kind, A.fr.round⟩, A.cs,
              nd_plain A.nd (alsOf_plain (σ := σ) (fr := { s.fr with todo := _ }) (f := { f with todo := (lc.pending.map Item.code).toList ++ K }) hIK)⟩
        · cases hs
  · -- leaving
    rename_i hmode
    have hfm : f.mode ≠ .run := by
      have hmo := A.fr.mode
      intro e
      rw [e] at hmo
      cases hmm : s.fr.mode with
      | run => exact hmode hmm
      | returning => rw [hmm] at hmo; cases hmo
      | panicking ch => rw [hmm] at hmo; obtain ⟨c, e2, _⟩ := hmo; cases e2
    have hdef := A.fr.defers
    split at hs
    · -- the deferred calls of a range
      rename_i block ds hd
      rw [hd] at hdef
      obtain ⟨d, l', e1, ⟨L, hL, e2, e3⟩, hds⟩ := hdef
      obtain ⟨dt, da⟩ := d
      simp only at e2 e3
      subst e2 e3
      split at hs
      · rename_i l hl
        cases hs
        obtain ⟨hgb, hg⟩ := deferredAt_sound hl
        obtain ⟨_, lc, h1, h2⟩ := A.wr.obj _ _ _ _ hL hg
        have happ : ∀ (a : List ADef) (x : List Deferred) (b : List ADef) (y : List Deferred), DsR σ a x → DsR σ b y → DsR σ (a ++ b) (x ++ y) := by
          intro a
          induction a with
          | nil => intro x b y h1 h2; simp only [DsR] at h1; subst h1; exact h2
          | cons q a ih =>
            rintro x b y ⟨d, l', rfl, h3, h4⟩ h2
            exact ⟨d, l' ++ y, rfl, h3, ih _ _ _ h4 h2⟩
        refine ⟨_, .one (step_collected hfm e1 h1), σ, { f with defers := lc ++ l' }, cs, _, rfl, ?_, A.gl, ⟨A.fr.fn, A.fr.size, A.fr.top, happ _ _ _ _ h2 hds, A.fr.mode, A.fr.kind, A.fr.round⟩, A.cs, A.nd⟩
        refine A.wr.turn hL hgb _ _ ?_
        intro v' L' hL'
        obtain ⟨rfl, _⟩ := A.wr.obj _ _ _ _ hL' hg
        rw [hL] at hL'
        cases hL'
        rw [if_pos rfl]
        exact ⟨rfl, rfl⟩
      · cases hs
    · -- a deferred call
      rename_i fv args ds hd
      rw [hd] at hdef
      obtain ⟨d, l', e1, hdr, hds⟩ := hdef
      split at hs
      · rename_i g as hinv
        split at hs
        · rename_i fr' hent
          cases hs
          obtain ⟨fn, a, b, x, y, z, rfl, hfn, e2, e3, r1, r2, r3⟩ := hdr
          obtain ⟨dt, da⟩ := d
          simp only at e2 e3
          subst e2 e3
          have hfv : RV σ (.func fn a b) (.func fn (List.toArray x) (List.toArray y)) := by
            simp only [RV]
            refine ⟨x, y, rfl, ?_, r1, r2⟩
            cases fn <;> exact hfn
          obtain ⟨d2, h1, us, h3, h4⟩ := invokeA_sound hE A.wr hfv r3 hinv
          have hd2 : d2 = { target := .fn fn (List.toArray y), args := List.toArray (x ++ z) } := by
            have : (Deferred.ofValue (.func fn (List.toArray x) (List.toArray y)) z.toArray).run E.P w = .ok { target := .fn fn (List.toArray y), args := List.toArray x ++ z.toArray } w := rfl
            rw [this] at h1
            cases h1
            simp
          subst hd2
          obtain ⟨g1, g2, g3⟩ := enter_sound (base := E.base) (next := s.next) h4 hent
          refine ⟨_, .one (step_callDeferred hfm e1 h3), σ, _, { f with defers := l' } :: cs, w, rfl, A.wr, A.gl, g1, ⟨_, cs, rfl, ⟨A.fr.fn, A.fr.size, A.fr.top, hds, A.fr.mode, A.fr.kind, A.fr.round⟩, A.cs⟩, ?_⟩
          have hn := A.nd
          simp only [alsAll] at hn ⊢
          rw [g2]; exact hn
        · cases hs
      · cases hs
    · -- none is left
      rename_i hd
      rw [hd] at hdef
      simp only [DsR] at hdef
      split at hs
      · -- a panic goes on
        rename_i ch hmm
        have hmo := A.fr.mode
        rw [hmm] at hmo
        obtain ⟨c, e2, hc⟩ := hmo
        split at hs
        · rename_i cf rest hcs
          cases hs
          have hcc := A.cs
          rw [hcs] at hcc
          obtain ⟨g, cs', rfl, hg, hcs'⟩ := hcc
          obtain ⟨g1, g2⟩ := raise_sound hg hc
          refine ⟨_, .one (step_passOn (cs := cs' ++ CS) e2 hdef (catches_false A.fr.top)), σ, _, cs', w, rfl, A.wr, A.gl, g1, hcs', ?_⟩
          have hn := A.nd
          rw [hcs] at hn
          simp only [alsAll] at hn ⊢
          rw [g2]
          exact (List.nodup_append.1 hn).2.1
        · cases hs
      · -- a return
        rename_i hnp
        have hret : f.mode = .returning := by
          have hmo := A.fr.mode
          cases hmm : s.fr.mode with
          | run => exact absurd hmm hmode
          | returning => rw [hmm] at hmo; exact hmo
          | panicking ch => exact absurd hmm (hnp ch)
        split at hs
        · cases hs
        · rename_i fn hfn
          split at hs
          · rename_i vs hvs
            split at hvs
            · cases hvs
            · rename_i hdt
              obtain ⟨u, hrun, hru⟩ := results_sound (P := E.P) A.wr A.fr.top hdt hvs
              have hfn' : E.P.funcs[f.fn]? = some fn := by rw [A.fr.fn]; exact hfn
              split at hs
              · cases hs
              · rename_i cf rest hcs
                have hcc := A.cs
                rw [hcs] at hcc
                obtain ⟨g, cs', rfl, hg, hcs'⟩ := hcc
                have hn := A.nd
                rw [hcs] at hn
                simp only [alsAll] at hn
                have hn2 := (List.nodup_append.1 hn).2.1
                split at hs
                · rename_i hdf
                  have hkind : f.kind = .deferred := by rw [A.fr.kind, hdf]
                  split at hs
                  · rename_i mo hset
                    cases hs
                    have hmo := hg.mode
                    unfold settleA at hset
                    split at hset
                    · rename_i p ps hcm
                      rw [hcm] at hmo
                      obtain ⟨c, e2, q, older, e3, k1, k2, k3, k4⟩ := hmo
                      subst e3
                      split at hset
                      · rename_i hrec
                        cases hset
                        obtain ⟨qv, qr, qg⟩ := q
                        simp only at k2 k3
                        rw [hrec] at k2
                        subst k2 k3
                        refine ⟨_, .one (step_backRec (cs := cs' ++ CS) hret hdef hkind hfn' hrun e2 (PaR.noGoexit k4)), σ, { g with mode := .returning }, cs', w, rfl, A.wr, A.gl, ⟨hg.fn, hg.size, hg.top, hg.defers, rfl, hg.kind, hg.round⟩, hcs', hn2⟩
                      · cases hset
                    · cases hset
                    · rename_i hcm1 hcm2
                      cases hset
                      have hne : ∀ v gx older, g.mode ≠ .panicking ({ v := v, recovered := true, goexit := gx } :: older) := by
                        intro v gx older e
                        cases hcm : cf.mode with
                        | run => rw [hcm, e] at hmo; cases hmo
                        | returning => rw [hcm, e] at hmo; cases hmo
                        | panicking ch =>
                          cases ch with
                          | nil => exact hcm2 hcm
                          | cons p ps => exact hcm1 p ps hcm
                      refine ⟨_, .one (step_backSame (cs := cs' ++ CS) hret hdef hkind hfn' hrun hne), σ, g, cs', w, rfl, A.wr, A.gl, hg, hcs', hn2⟩
                  · cases hs
                · rename_i hdf
                  have hkind : f.kind = .normal := by rw [A.fr.kind, hdf]
                  split at hs
                  · rename_i c' hfin
                    cases hs
                    obtain ⟨g1, g2⟩ := finish_sound hg hfin hru
                    refine ⟨_, .one (step_backNormal (cs := cs' ++ CS) hret hdef hkind hfn' hrun), σ, _, cs', w, rfl, A.wr, A.gl, g1, hcs', ?_⟩
                    simp only [alsAll] at hn2 ⊢
                    rw [g2]; exact hn2
                  · cases hs
          · cases hs
end
end Go.Vm
end
