/- DebugBack returns true for every list, index and number, and changes nothing that lay before. No conditions. Part FB. -/
import Derived.Test.YtnlkhnbbkjejkaaGreatDoorFA
set_option linter.unusedSimpArgs false
set_option linter.unusedVariables false
namespace Go.Vm

section
variable {F : FE} (hF : FOK F)
variable {h : T Obj} {t : T AV} {v : AV} {o : Oper}

theorem genS_ok (hr : genS F.E o h t = some v) : opS F.E h t o = some v := hr
theorem toAgg_eq (l : Option (List AV)) : toAgg l = (match l with | some l => some (.agg l) | none => none) := by cases l <;> rfl
theorem atB_some {z : Bool} {r : Option AV} (h : atB z r = some v) : z = true ∧ r = some v := by
  cases z with
  | false => cases h
  | true => exact ⟨rfl, h⟩
theorem natI_some {i : Int} {f : Nat → Option AV} (h : natI i f = some v) : ∃ n, i = .ofNat n ∧ f n = some v := by
  cases i with
  | ofNat n => exact ⟨n, rfl, h⟩
  | negSucc n => cases h

/-- what a view found -/
theorem asPtr_some {x : AV} {f : Pos → Nat → Nat → Option AV} (h : asPtr x f none = some v) : ∃ p w c, x = .ptr p w c ∧ f p w c = some v := by
  rw [asPtr_eq] at h
  split at h
  · exact ⟨_, _, _, rfl, h⟩
  · cases h
theorem asBool_some {x : AV} {f : Bool → Option AV} (h : asBool x f none = some v) : ∃ z, x = .bool z ∧ f z = some v := by
  rw [asBool_eq] at h
  split at h
  · exact ⟨_, rfl, h⟩
  · cases h
theorem asAgg_some {x : AV} {f : List AV → Option AV} (h : asAgg x f none = some v) : ∃ z, x = .agg z ∧ f z = some v := by
  rw [asAgg_eq] at h
  split at h
  · exact ⟨_, rfl, h⟩
  · cases h
theorem asTuple_some {x : AV} {f : List AV → Option AV} (h : asTuple x f none = some v) : ∃ z, x = .tuple z ∧ f z = some v := by
  rw [asTuple_eq] at h
  split at h
  · exact ⟨_, rfl, h⟩
  · cases h
theorem asInt_some {x : AV} {f : IntKind → Int → Option AV} (h : asInt x f none = some v) : ∃ k n, x = .int k n ∧ f k n = some v := by
  rw [asInt_eq] at h
  split at h
  · exact ⟨_, _, rfl, h⟩
  · cases h
theorem asStr_some {x : AV} {f : Nat → Option AV} (h : asStr x f none = some v) : ∃ n, x = .str n ∧ f n = some v := by
  rw [asStr_eq] at h
  split at h
  · exact ⟨_, rfl, h⟩
  · cases h
theorem asSlice_some {x : AV} {f : Pos → Nat → Nat → Nat → Option Nat → Nat → Option AV} (h : asSlice x f none = some v) : ∃ p w c n cap es, x = .slice p w c n cap es ∧ f p w c n cap es = some v := by
  rw [asSlice_eq] at h
  split at h
  · exact ⟨_, _, _, _, _, _, rfl, h⟩
  · cases h

include hF
theorem sbLoad_ok {ty : TypeId} {a : Operand} (ho : o.op = .load ty a) (hr : (sbLoad F o ty a).run h t = some v) : opS F.E h t o = some v := by
  unfold sbLoad at hr
  split at hr
  · rename_i b hb hz
    obtain ⟨p, w, c, h1, h2⟩ := asPtr_some hr
    rw [cellR_eq] at h2
    unfold opS; rw [ho]
    simp only [obOf_ok hb t, loadA, aggF_ok hF hz, h1]
    split at h2
    · rename_i hc; cases h2; simp only [hc]
    · cases h2
  · rename_i b n hb hz hs
    obtain ⟨p, w, c, h1, h2⟩ := asPtr_some hr
    rw [cellsR_eq, toAgg_eq] at h2
    unfold opS; rw [ho]
    simp only [obOf_ok hb t, loadA, aggF_ok hF hz, szF_ok hF hs, h1]
    split at h2
    · rename_i hc; cases h2; simp only [hc]
    · cases h2
  · exact hr
theorem sbFieldA_ok {s : TypeId} {x : Operand} {f : Nat} (ho : o.op = .fieldAddr s x f) (hr : (sbFieldA F o s x f).run h t = some v) : opS F.E h t o = some v := by
  unfold sbFieldA at hr
  split at hr
  · rename_i b fields hb hu
    split at hr
    · rename_i fd hfd
      split at hr
      · rename_i k hk
        obtain ⟨p, w, c, h1, h2⟩ := asPtr_some hr
        cases h2
        unfold opS; rw [ho]
        simp only [obOf_ok hb t, underF_ok hF hu, h1, hfd, szF_ok hF hk]
      · exact hr
    · exact hr
  · exact hr
theorem sbField_ok {s : TypeId} {x : Operand} {f : Nat} (ho : o.op = .field s x f) (hr : (sbField F o s x f).run h t = some v) : opS F.E h t o = some v := by
  unfold sbField at hr
  split at hr
  · rename_i b fields hb hu
    split at hr
    · rename_i fd hfd
      split at hr
      · rename_i hz
        obtain ⟨cs, h1, h2⟩ := asAgg_some hr
        unfold part1 at h2
        rw [nthV_eq, nth_drop] at h2
        unfold opS; rw [ho]
        simp only [obOf_ok hb t, underF_ok hF hu, h1, hfd, partA, aggF_ok hF hz]
        split at h2
        · rename_i hc; cases h2; simp only [hc]
        · cases h2
      · rename_i n hz hs
        obtain ⟨cs, h1, h2⟩ := asAgg_some hr
        unfold partN at h2
        rw [takeV_eq, dropV_eq, toAgg_eq] at h2
        unfold opS; rw [ho]
        simp only [obOf_ok hb t, underF_ok hF hu, h1, hfd, partA, aggF_ok hF hz, szF_ok hF hs]
        split at h2
        · rename_i hc; cases h2; simp only [hc]
        · cases h2
      · exact hr
    · exact hr
  · exact hr
theorem sbIndexA_ok {ty : TypeId} {x i : Operand} (ho : o.op = .indexAddr ty x i) (hr : (sbIndexA F o ty x i).run h t = some v) : opS F.E h t o = some v := by
  unfold sbIndexA at hr
  split at hr
  · rename_i a b ha hb
    split at hr
    · rename_i e hu
      split at hr
      · rename_i s hs
        obtain ⟨p, w, c, n, cap, es, h1, h2⟩ := asSlice_some hr
        obtain ⟨k, m, h3, h4⟩ := asInt_some h2
        obtain ⟨j, rfl, h5⟩ := natI_some h4
        obtain ⟨h6, h7⟩ := atB_some h5
        obtain ⟨h8, h9⟩ := atB_some h7
        cases h9
        have h6' : Nat.blt j n = true := h6
        unfold opS; rw [ho]
        simp only [obOf_ok ha t, obOf_ok hb t, underF_ok hF hu, h1, h3, h6', szF_ok hF hs, h8]
      · exact hr
    · rename_i n e hu
      split at hr
      · rename_i s hs
        obtain ⟨p, w, c, h1, h2⟩ := asPtr_some hr
        obtain ⟨k, m, h3, h4⟩ := asInt_some h2
        obtain ⟨j, rfl, h5⟩ := natI_some h4
        obtain ⟨h6, h7⟩ := atB_some h5
        cases h7
        have h6' : Nat.blt j n = true := h6
        unfold opS; rw [ho]
        simp only [obOf_ok ha t, obOf_ok hb t, underF_ok hF hu, h1, h3, h6', szF_ok hF hs]
      · exact hr
    · exact hr
  · exact hr
theorem sbIndex_ok {ty : TypeId} {x i : Operand} (ho : o.op = .index ty x i) (hr : (sbIndex F o ty x i).run h t = some v) : opS F.E h t o = some v := by
  unfold sbIndex at hr
  split at hr
  · rename_i a b ha hb
    split at hr
    · rename_i hu
      obtain ⟨s, h1, h2⟩ := asStr_some hr
      obtain ⟨k, m, h3, h4⟩ := asInt_some h2
      obtain ⟨j, rfl, h5⟩ := natI_some h4
      obtain ⟨h6, h7⟩ := atB_some h5
      cases h7
      have h6' : Nat.blt j (slen s) = true := h6
      unfold opS; rw [ho]
      simp only [obOf_ok ha t, obOf_ok hb t, underF_ok hF hu, h1, h3, h6']
    · exact hr
  · exact hr
theorem sbIface_ok {ty : TypeId} {x : Operand} (ho : o.op = .makeInterface ty x) (hr : (sbIface F o ty x).run h t = some v) : opS F.E h t o = some v := by
  unfold sbIface at hr
  split at hr
  · rename_i a ha
    split at hr
    · exact hr
    · rename_i d hne hu
      simp only [sIface, Option.some.injEq] at hr
      subst hr
      unfold opS; rw [ho]
      simp only [obOf_ok ha t, underF_ok hF hu]
    · exact hr
  · exact hr
omit hF in
theorem sbFunc_ok {fn : Fn} {first cap : Array Operand} (ho : o.op = .makeFunc fn first cap) (hr : (sbFunc F o fn first cap).run h t = some v) : opS F.E h t o = some v := by
  unfold sbFunc at hr
  split at hr
  · rename_i k
    split at hr
    · rename_i a b ha hb
      simp only [sFunc, Option.some.injEq] at hr
      subst hr
      unfold opS; rw [ho]
      simp only [obsOf_ok ha t, obsOf_ok hb t]
    · exact hr
  · exact hr
theorem sbAssert_ok {x : Operand} {ty ty0 : TypeId} {ok : Bool} (ho : o.op = .typeAssert x ty0 ty ok) (hr : (sbAssert F o x ty ok).run h t = some v) : opS F.E h t o = some v := by
  unfold sbAssert at hr
  split at hr
  · rename_i a ha
    split at hr
    · exact hr
    · rename_i d hne hu
      simp only [sAssert, asIface_eq] at hr
      split at hr
      · rename_i ty' w hw
        cases hq : Nat.beq ty' ty with
        | false => rw [hq] at hr; exact hr
        | true =>
          rw [hq] at hr
          simp only [Option.some.injEq] at hr
          subst hr
          unfold opS; rw [ho]
          simp only [obOf_ok ha t, underF_ok hF hu, hw]
          cases d <;> first
            | exact (hne _ rfl).elim
            | (simp only [hq]; cases ok <;> rfl)
      · exact hr
    · exact hr
  · exact hr
theorem sbLen_ok {c : Call} {ty : TypeId} {x : Operand} {l : List TypeId} (ho : o.op = .call c) (hc : c.callee = .builtin .len) (ht : c.argTypes.toList = ty :: l) (hx : c.args.toList = [x]) (hr : (sbLen F o ty x).run h t = some v) : opS F.E h t o = some v := by
  unfold sbLen at hr
  split at hr
  · rename_i a ha
    have hargs : evalsA F.E.base t [x] = some [a.run t] := by simp only [evalsA, obOf_ok ha t]
    split at hr
    · rename_i hu
      simp only [sLenStr, asStr_eq] at hr
      split at hr
      · rename_i s hs
        cases hr
        unfold opS; rw [ho]
        simp only [hc, ht, hx, hargs, lenA, underF_ok hF hu, hs]
      · exact hr
    · rename_i e hu
      simp only [sLenS, asSlice_eq] at hr
      split at hr
      · rename_i hs
        cases hr
        unfold opS; rw [ho]
        simp only [hc, ht, hx, hargs, lenA, underF_ok hF hu, hs]
      · exact hr
    · exact hr
  · exact hr
theorem sbCall_ok {c : Call} (ho : o.op = .call c) (hr : (sbCall F o c).run h t = some v) : opS F.E h t o = some v := by
  unfold sbCall at hr
  split at hr
  · rename_i hc
    split at hr
    · rename_i ty l x ht hx
      exact sbLen_ok hF ho hc ht hx hr
    · exact hr
  · exact hr
end

/-! ### what is built -/
theorem fillF_cons (p : PB) (l : List PB) (t : T AV) (cells : List AV) : fillF (p :: l) t cells = (match Nat.beq (len (p.ob.run t).cells) p.size with
    | true => match putAt p.off cells (p.ob.run t).cells with
      | some c => fillF l t c
      | none => none
    | false => none) := by
  obtain ⟨off, size, ob⟩ := p
  show Bool.rec (motive := fun _ => Nat → OB → (T AV → List AV → Option (List AV)) → T AV → List AV → Option (List AV)) (fun _ _ _ _ _ => none)
        (fun off ob ih t cells => Option.rec (motive := fun _ => (T AV → List AV → Option (List AV)) → T AV → Option (List AV)) (fun _ _ => none) (fun l ih t => ih t l) (putV off cells (cellsV (ob.run t))) ih t)
        (Nat.beq (lenV (cellsV (ob.run t))) size) off ob (fun t c => fillF l t c) t cells = _
  rw [lenV_eq, cellsV_eq]
  cases Nat.beq (len (ob.run t).cells) size with
  | false => rfl
  | true =>
    show Option.rec (motive := fun _ => (T AV → List AV → Option (List AV)) → T AV → Option (List AV)) (fun _ _ => none) (fun l ih t => ih t l) (putV off cells (cellsV (ob.run t))) (fun t c => fillF l t c) t = _
    rw [putV_eq, cellsV_eq]
    cases putAt off cells (ob.run t).cells <;> rfl
theorem partsF_ok {base : Nat} {place : Nat → Option (Nat × Nat)} {t : T AV} : ∀ {l : List (Nat × Operand)} {ps : List PB} (_ : partsF base place l = some ps), ∃ vs, evalPs base t l = some vs ∧ ∀ cells, fillF ps t cells = fillA place vs cells
  | [], ps, h => by
    simp only [partsF, Option.some.injEq] at h
    subst h
    exact ⟨[], rfl, fun _ => rfl⟩
  | (i, x) :: l, ps, h => by
    simp only [partsF] at h
    split at h
    · rename_i off size a hp ha
      split at h
      · rename_i k hk
        cases h
        obtain ⟨vs, h1, h2⟩ := partsF_ok (t := t) hk
        refine ⟨(i, a.run t) :: vs, ?_, fun cells => ?_⟩
        · simp only [evalPs, obOf_ok ha t, h1]
        · rw [fillF_cons]
          simp only [fillA, hp]
          cases Nat.beq (len (a.run t).cells) size with
          | false => rfl
          | true =>
            simp only
            cases putAt off cells (a.run t).cells with
            | none => rfl
            | some c => exact h2 c
      · cases h
    · cases h
section
variable {F : FE} (hF : FOK F)
variable {h : T Obj} {t : T AV} {v : AV} {o : Oper}
include hF
theorem sbBuild_ok {ty : TypeId} {parts : Array (Nat × Operand)} (ho : o.op = .build ty parts) (hr : (sbBuild F o ty parts).run h t = some v) : opS F.E h t o = some v := by
  unfold sbBuild at hr
  split at hr
  · rename_i z fields hz hu
    split at hr
    · rename_i pl hpl
      split at hr
      · rename_i l hl
        obtain ⟨vs, h1, h2⟩ := partsF_ok (t := t) hl
        simp only [sBuild, toAgg_eq, h2] at hr
        unfold opS; rw [ho]
        simp only [zeroF_ok hF hz, h1, underF_ok hF hu, hpl]
        exact hr
      · exact hr
    · exact hr
  · exact hr

/-! ### fields held against each other -/
omit hF in
theorem eInt_some {x y : AV} {z : Bool} (hr : eInt h x y = some z) : ∃ k a k' b, x = .int k a ∧ y = .int k' b ∧ kindEq k k' = true ∧ z = intEq a b := by
  unfold eInt at hr
  split at hr
  · split at hr
    · rename_i hk
      cases hr
      rw [kCode_beq] at hk
      exact ⟨_, _, _, _, rfl, rfl, hk, eqI_eq _ _⟩
    · cases hr
  · cases hr
omit hF in
theorem ebOf_ok {F : FE} (hF : FOK F) {h : T Obj} {d : Nat} {ty : TypeId} {x y : AV} {z : Bool} (hr : (ebOf F d ty).run h x y = some z) : eqA F.E.P h d ty x y = some z := by
  unfold ebOf at hr
  split at hr
  · rename_i k hu
    cases d with
    | zero => cases hr
    | succ d =>
      obtain ⟨k, a, k', b, rfl, rfl, h1, rfl⟩ := eInt_some (h := h) hr
      have hu' := underF_ok hF hu
      simp only [eqA, hu', h1]
  · exact hr
theorem ffOf_ok {d : Nat} {xs ys : List AV} {z : Bool} : ∀ {fs : List Field} {l : List FF}, ffOf F d fs = some l → eqBy l h xs ys = some z → eqFs F.E.P (eqA F.E.P h d) xs ys fs = some z
  | [], l, hl, hr => by
    simp only [ffOf, Option.some.injEq] at hl
    subst hl
    exact hr
  | f :: fs, l, hl, hr => by
    simp only [ffOf] at hl
    simp only [eqFs]
    split at hl
    · rename_i hn; simp only [hn]; exact ffOf_ok hl hr
    · rename_i hn
      simp only [hn]
      split at hl
      · rename_i zz n hz hs
        split at hl
        · rename_i l' hl'
          cases hl
          have hp : ∀ cs, (match (match zz with | true => some n | false => none : Option Nat) with | none => part1 f.offset cs | some n => partN f.offset n cs) = partA F.E.P f.type cs f.offset := by
            intro cs
            unfold partA
            rw [aggF_ok hF hz]
            cases zz with
            | true =>
              simp only [szF_ok hF hs, partN, takeV_eq, dropV_eq, toAgg_eq]
              rfl
            | false =>
              simp only [part1, nthV_eq, nth_drop]
              cases dropN f.offset cs <;> rfl
          simp only [eqBy, hp] at hr
          split at hr
          · rename_i x y hx hy
            have hx' := (hp xs).symm.trans hx
            have hy' := (hp ys).symm.trans hy
            simp only [hx', hy']
            split at hr
            · rename_i he
              rw [ebOf_ok hF he]
              exact ffOf_ok hl' hr
            · rename_i he
              rw [ebOf_ok hF he]
              exact hr
            · cases hr
          · cases hr
        · cases hl
      · cases hl
omit hF in
theorem intF_ok {op : BinOp} {f : IntKind → Int → Int → Option AV} (hf : intF op = some f) (k : IntKind) (a b : Int) : isShift op = false ∧ f k a b = intOp op k a b := by
  unfold intF at hf
  split at hf <;> first
    | (cases hf; exact ⟨rfl, addI_eq k a b⟩)
    | (cases hf; exact ⟨rfl, by simp only [notB_eq, ltI_eq, eqI_eq, intOp]⟩)
    | cases hf
theorem sbBin_ok {op : BinOp} {ty ty' : TypeId} {x y : Operand} (ho : o.op = .binOp op ty x y ty') (hr : (sbBin F o op ty x y).run h t = some v) : opS F.E h t o = some v := by
  unfold sbBin at hr
  split at hr
  · rename_i a b ha hb
    split at hr
    · rename_i k hu
      split at hr
      · rename_i f hf
        simp only [sInt2, asInt_eq] at hr
        split at hr
        · rename_i k1 m hm
          split at hr
          · rename_i k2 n hn
            obtain ⟨h1, h2⟩ := atB_some hr
            rw [kCode_beq] at h1
            obtain ⟨h3, h4⟩ := intF_ok hf k1 m n
            rw [h4] at h2
            unfold opS; rw [ho]
            simp only [obOf_ok ha t, obOf_ok hb t, hm, hn, binA, h3, h1, h2]
          · exact hr
        · exact hr
      · exact hr
    · rename_i hu
      simp only [sStr2, asStr_eq] at hr
      split at hr
      · rename_i m hm
        split at hr
        · rename_i n hn
          unfold opS; rw [ho]
          simp only [obOf_ok ha t, obOf_ok hb t, hm, hn, binA, hr]
        · exact hr
      · exact hr
    · rename_i fields hu
      split at hr
      · rename_i neg hneg
        split at hr
        · rename_i hg
          split at hr
          · rename_i fs hfs
            simp only [sStruct, asAgg_eq] at hr
            split at hr
            · rename_i xs hxs
              split at hr
              · rename_i ys hys
                rw [Bool.and_eq_true] at hg
                have hg1 : F.E.P.eqGuardType F.E.P.depth ty = false := by
                  cases hq : F.E.P.eqGuardType F.E.P.depth ty with
                  | false => rfl
                  | true => rw [hq] at hg; cases hg.1
                have hg2 : F.E.P.stoodInHeld ty = false := by
                  cases hq : F.E.P.stoodInHeld ty with
                  | false => rfl
                  | true => rw [hq] at hg; cases hg.2
                cases he : eqBy fs h xs ys with
                | none => rw [he] at hr; cases hr
                | some z =>
                  rw [he] at hr
                  have hez := ffOf_ok hF hfs he
                  have heq : eqA F.E.P h 8 ty (.agg xs) (.agg ys) = some z := by
                    simp only [eqA, underF_ok hF hu, hg2]
                    exact hez
                  unfold opS; rw [ho]
                  simp only [obOf_ok ha t, obOf_ok hb t, hxs, hys]
                  unfold isEqOp at hneg
                  split at hneg
                  · cases hneg; cases hr
                    simp only [binA, guardEq, hg1, Bool.not_false, heq]
                  · cases hneg; cases hr
                    simp only [binA, guardEq, hg1, Bool.not_false, heq, notB_eq]
                  · cases hneg
              · exact hr
            · exact hr
          · exact hr
        · exact hr
      · exact hr
    · exact hr
  · exact hr

/-- A small operation, made ready, is that operation. -/
theorem sbOf_ok (hr : (sbOf F o).run h t = some v) : opS F.E h t o = some v := by
  unfold sbOf at hr
  split at hr
  · rename_i x ho
    split at hr
    · rename_i a ha
      cases hr
      unfold opS; rw [ho]
      simp only [obOf_ok ha t]
    · exact hr
  · rename_i c a b ho
    split at hr
    · rename_i c' a' b' hc ha hb
      obtain ⟨z, h1, h2⟩ := asBool_some hr
      unfold opS; rw [ho]
      simp only [obOf_ok hc t, h1]
      cases z with
      | true => cases h2; simp only [obOf_ok ha t]
      | false => cases h2; simp only [obOf_ok hb t]
    · exact hr
  · rename_i ty a ho; exact sbLoad_ok hF ho hr
  · rename_i x ho
    split at hr
    · rename_i a ha
      obtain ⟨p, w, c, h1, h2⟩ := asPtr_some hr
      cases h2
      unfold opS; rw [ho]
      simp only [obOf_ok ha t, h1]
    · exact hr
  · rename_i s x f ho; exact sbFieldA_ok hF ho hr
  · rename_i s x f ho; exact sbField_ok hF ho hr
  · rename_i ty x i ho; exact sbIndexA_ok hF ho hr
  · rename_i ty x i ho; exact sbIndex_ok hF ho hr
  · rename_i op ty x y ty' ho; exact sbBin_ok hF ho hr
  · rename_i ty x ho
    split at hr
    · rename_i a ha
      obtain ⟨z, h1, h2⟩ := asBool_some hr
      cases h2
      unfold opS; rw [ho]
      simp only [obOf_ok ha t, h1, notB_eq]
    · exact hr
  · rename_i ty x ho; exact sbIface_ok hF ho hr
  · rename_i fn first cap ho; exact sbFunc_ok ho hr
  · rename_i ty parts ho; exact sbBuild_ok hF ho hr
  · rename_i x i ho
    split at hr
    · rename_i a ha
      obtain ⟨l, h1, h2⟩ := asTuple_some hr
      rw [nthV_eq] at h2
      unfold opS; rw [ho]
      simp only [obOf_ok ha t, h1, h2]
    · exact hr
  · rename_i x ty0 ty ok ho; exact sbAssert_ok hF ho hr
  · rename_i c ho; exact sbCall_ok hF ho hr
  · exact hr
end
end Go.Vm
