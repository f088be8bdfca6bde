/- DebugBack returns true for every list, index and number, and changes nothing that lay before. No conditions. Part FD. -/
import Derived.Test.YtnlkhnbbkjejkaaGreatDoorFC
set_option linter.unusedSimpArgs false
set_option linter.unusedVariables false
section
namespace Go.Vm

section
variable {E : Env} {ops rest : List Oper} {o : Oper} {k : List AItem} {b : FB} {t t' : T AV} {h h' : T Obj} {next next' : Pos} {v : AV} {r : Res}

/-- a step of a region is what its operations come to -/
theorem step_reg : stepA E (mkSt b t (.reg ops rest :: k) h next) = (match runOps E (nOf b) ops rest h next t with
    | some (h', next', t', rest', r) => match r with
      | none => some (.on (mkSt b t' k h' next'))
      | some r => onA (applyA E (mkSt b t' (.reg ops rest' :: k) h' next') r)
    | none => none) := by
  obtain ⟨fn, n, defers, deferred, roundOf, cs⟩ := b
  simp only [mkSt_mk, stepA, nOf]
  cases runOps E n ops rest h next t with
  | none => rfl
  | some x => obtain ⟨h', next', t', rest', r⟩ := x; cases r <;> rfl
theorem reg_nil : stepA E (mkSt b t (.reg ops [] :: k) h next) = some (.on (mkSt b t k h next)) := by
  rw [step_reg]; rfl
theorem reg_val (hg : guardOk ops t o = true) (ho : opA E h next t o = some (.val v h' next')) (hd : ∀ d, o.dst = some d → Nat.succ d ≤ nOf b) :
    stepA E (mkSt b t (.reg ops (o :: rest) :: k) h next) = stepA E (mkSt b (putT (dstKey o.dst) v t) (.reg ops rest :: k) h' next') := by
  rw [step_reg, step_reg]
  simp only [runOps, hg, ho, setDst_ok hd]
theorem reg_undef (hg : guardOk ops t o = false) (hd : ∀ d, o.dst = some d → Nat.succ d ≤ nOf b) :
    stepA E (mkSt b t (.reg ops (o :: rest) :: k) h next) = stepA E (mkSt b (putT (dstKey o.dst) undefA t) (.reg ops rest :: k) h next) := by
  rw [step_reg, step_reg]
  simp only [runOps, hg, setDst_ok hd]
theorem reg_oth (hg : guardOk ops t o = true) (ho : opA E h next t o = some r) (hne : ∀ v h' n', r ≠ .val v h' n') :
    stepA E (mkSt b t (.reg ops (o :: rest) :: k) h next) = onA (applyA E (mkSt b t (.reg ops (o :: rest) :: k) h next) r) := by
  rw [step_reg]
  simp only [runOps, hg, ho]
end

theorem guardT_val (x : AV) (want : Bool) : (match x with | .bool b => b == want | _ => false) = true ↔ x = .bool want := by
  constructor
  · intro h
    split at h
    · rename_i z
      cases z <;> cases want <;> first | rfl | cases h
    · cases h
  · intro h; subst h; cases want <;> rfl
theorem selN_bool (z : Bool) (A B : CB) : selN (.bool z) A B = (match z with | true => A | false => B) := by cases z <;> rfl
theorem guardCB_ok {E : Env} {K : KT} {s0 : St} {ops : List Oper} {o : Oper} {A B : CB} {k : List AItem} {b : FB} {t : T AV} {h : T Obj} {next : Pos}
    (HA : guardOk ops t o = true → Leads E K s0 (A.run k b t h next K)) (HB : guardOk ops t o = false → Leads E K s0 (B.run k b t h next K)) :
    Leads E K s0 ((guardCB ops o A B).run k b t h next K) := by
  unfold guardCB
  split
  · rename_i hg
    exact HA (by unfold guardOk; rw [hg])
  · rename_i j want hg
    split
    · rename_i p hp
      split
      · rename_i d hd
        have hval : guardOk ops t o = (match tget t d with | .bool b => b == want | _ => false) := by
          unfold guardOk; rw [hg]; simp only [hp, hd]; rfl
        cases want with
        | true =>
          show Leads E K s0 ((selN (getV t (nk d)) A B).run k b t h next K)
          rw [getV_eq]
          cases hq : tget t d <;> first
            | (refine HB ?_; rw [hval, hq])
            | (rename_i z; cases z
               · exact HB (by rw [hval, hq]; rfl)
               · exact HA (by rw [hval, hq]; rfl))
        | false =>
          show Leads E K s0 ((asBoolC (getV t (nk d)) (fun z => Bool.rec (motive := fun _ => CB) A B z) B).run k b t h next K)
          rw [getV_eq]
          cases hq : tget t d <;> first
            | (refine HB ?_; rw [hval, hq])
            | (rename_i z; cases z
               · exact HA (by rw [hval, hq]; rfl)
               · exact HB (by rw [hval, hq]; rfl))
      · rename_i hd
        exact HB (by unfold guardOk; rw [hg]; simp only [hp, hd])
    · rename_i hp
      exact HB (by unfold guardOk; rw [hg]; simp only [hp])

theorem maxD_cons {o : Oper} {l : List Oper} {n : Nat} (h : maxD (o :: l) ≤ n) : (∀ d, o.dst = some d → Nat.succ d ≤ n) ∧ maxD l ≤ n := by
  unfold maxD at h
  cases hd : o.dst with
  | none =>
    rw [hd] at h
    refine ⟨fun d e => ?_, h⟩
    cases e
  | some d =>
    rw [hd] at h
    simp only at h
    exact ⟨fun d' e => by cases e; exact Nat.le_trans (Nat.le_max_left _ _) h, Nat.le_trans (Nat.le_max_right _ _) h⟩
theorem maxD_mem {o : Oper} {n : Nat} : ∀ {l : List Oper}, maxD l ≤ n → ∀ i, nth i l = some o → ∀ d, o.dst = some d → Nat.succ d ≤ n
  | [], _, i, hi, _, _ => by cases i <;> cases hi
  | p :: l, h, 0, hi, d, hd => by
    cases hi
    exact (maxD_cons h).1 d hd
  | p :: l, h, i + 1, hi, d, hd => maxD_mem (maxD_cons h).2 i hi d hd

section
variable {F : FE} (hF : FOK F)
include hF
theorem regCB_ok (ops : List Oper) (k : List AItem) (b : FB) (K : KT) : ∀ (rest : List Oper) (t : T AV) (h : T Obj) (next : Pos), maxD rest ≤ nOf b → Leads F.E K (mkSt b t (.reg ops rest :: k) h next) ((regCB F ops rest).run k b t h next K)
  | [], t, h, next, _ => Leads.here reg_nil
  | o :: rest, t, h, next, hm => by
    obtain ⟨hd, hm'⟩ := maxD_cons hm
    unfold regCB
    refine guardCB_ok (fun hg => ?_) (fun hg => ?_)
    · refine opCB_ok hF (fun v h' next' hv => ?_) (fun r hr hne => reg_oth hg hr hne)
      exact Leads.same (reg_val hg hv hd) (regCB_ok ops k b K rest _ _ _ hm')
    · rw [undefCB_eq]
      exact Leads.same (reg_undef hg hd) (regCB_ok ops k b K rest _ _ _ hm')
theorem regionCB_ok {ops rest : List Oper} {k : List AItem} {b : FB} {K : KT} {t : T AV} {h : T Obj} {next : Pos} : Leads F.E K (mkSt b t (.reg ops rest :: k) h next) ((regionCB F ops rest).run k b t h next K) :=
  ifO_ok (fun hz => regCB_ok hF ops k b K rest t h next (Nat.le_of_ble_eq_true hz))
end
end Go.Vm
end
section
namespace Go.Vm

section
variable {E : Env} {K : KT} {s0 : St} {ops : List Oper} {o : Oper} {k : List AItem} {b : FB} {t : T AV} {h : T Obj} {next : Pos} {bs : List Nat} {last : Option Nat} {todo done : List Nat} {als : List (Nat × Pos)}

theorem step_draw : stepA E (mkSt b t (.draw ops bs last todo done als :: k) h next) = (match drawA E (nOf b) bs ops (smalls bs last todo ops 0) { h, next, t, done, als } with
    | some d => (match todo with
      | [] => some (.on (mkSt b d.t k d.h d.next))
      | i :: rest => match nth i ops with
        | some o => match seesOk bs d.done ops i o with
          | true => match guardOk ops d.t o with
            | true => match opE E d.h d.next d.t o with
              | some r => onA (applyA E (mkSt b d.t (.drawIn ops bs i rest d.done d.als :: k) d.h d.next) r)
              | none => none
            | false => match setDst (nOf b) d.t o.dst undefA with
              | some t => some (.on (mkSt b t (.draw ops bs (some i) rest d.done d.als :: k) d.h d.next))
              | none => none
          | false => none
        | none => none)
    | none => none) := by
  obtain ⟨fn, n, defers, deferred, roundOf, cs⟩ := b
  simp only [mkSt_mk, stepA, nOf]
  cases drawA E n bs ops (smalls bs last todo ops 0) { h := h, next := next, t := t, done := done, als := als } with
  | none => rfl
  | some d => cases todo with
    | nil => rfl
    | cons i rest =>
      simp only
      cases nth i ops with
      | none => rfl
      | some o =>
        simp only
        cases seesOk bs d.done ops i o with
        | false => rfl
        | true =>
          simp only
          cases guardOk ops d.t o with
          | true =>
            simp only
            cases opE E d.h d.next d.t o <;> rfl
          | false =>
            simp only
            cases setDst n d.t o.dst undefA <;> rfl

theorem guardDB_ok {A B : DB} (HA : guardOk ops t o = true → Leads E K s0 (A.run als k b t h next K)) (HB : guardOk ops t o = false → Leads E K s0 (B.run als k b t h next K)) :
    Leads E K s0 ((guardDB ops o A B).run als k b t h next K) := by
  unfold guardDB
  split
  · rename_i hg
    exact HA (by unfold guardOk; rw [hg])
  · rename_i j want hg
    split
    · rename_i p hp
      split
      · rename_i d hd
        have hval : guardOk ops t o = (match tget t d with | .bool b => b == want | _ => false) := by
          unfold guardOk; rw [hg]; simp only [hp, hd]; rfl
        show Leads E K s0 (Bool.rec (motive := fun _ => DB → DB → List (Nat × Pos) → CT) (fun _ B als k b t h next K => B.run als k b t h next K) (fun A _ als k b t h next K => A.run als k b t h next K)
          (Bool.rec (motive := fun _ => AV → Bool) (fun x => isFalse x) (fun x => isTrue x) want (getV t (nk d))) A B als k b t h next K)
        have hz : Bool.rec (motive := fun _ => AV → Bool) (fun x => isFalse x) (fun x => isTrue x) want (getV t (nk d)) = guardOk ops t o := by
          rw [hval, getV_eq]
          cases want with
          | true =>
            show isTrue (tget t d) = _
            unfold isTrue
            rw [asBoolB_eq]
            cases tget t d <;> first | rfl | (rename_i z; cases z <;> rfl)
          | false =>
            show isFalse (tget t d) = _
            unfold isFalse
            rw [asBoolB_eq]
            cases tget t d <;> first | rfl | (rename_i z; cases z <;> rfl)
        rw [hz]
        cases hq : guardOk ops t o with
        | true => exact HA hq
        | false => exact HB hq
      · rename_i hd
        exact HB (by unfold guardOk; rw [hg]; simp only [hp, hd])
    · rename_i hp
      exact HB (by unfold guardOk; rw [hg]; simp only [hp])

theorem holds_ok {n : Nat} {d : Option Nat} {v : AV} (hd : ∀ k, d = some k → Nat.succ k ≤ n) (hh : holdsF (dstKey d) t v = true) : holdsV n t d v = true := by
  cases d with
  | none => rfl
  | some k =>
    have h1 : Nat.blt k n = true := Nat.ble_eq_true_of_le (hd k rfl)
    have h2 : beqV (getV t (nk k)) v = true := hh
    rw [beqV_eq, getV_eq] at h2
    simp only [holdsV, h1, h2, Bool.and_self]
theorem freshOf_cons_true {i : Nat} {l done : List Nat} (hm : mem i done = true) : freshOf (i :: l) done = freshOf l done := by simp only [freshOf, hm]
theorem freshOf_cons_false {i : Nat} {l done : List Nat} (hm : mem i done = false) : freshOf (i :: l) done = i :: freshOf l (i :: done) := by simp only [freshOf, hm]
end

section
variable {F : FE} (hF : FOK F) {K : KT} {s0 : St} {ops : List Oper} {k : List AItem} {b : FB} {bs : List Nat}
include hF
theorem runs_ok (hm : maxD ops ≤ nOf b) (C : DB) : ∀ (sm done : List Nat) (als : List (Nat × Pos)) (t : T AV) (h : T Obj) (next : Pos),
    (∀ t' h' next' als', runSmalls F.E (nOf b) ops sm { h, next, t, done, als } = some { h := h', next := next', t := t', done := doneOf (freshOf sm done) done, als := als' } → Leads F.E K s0 (C.run als' k b t' h' next' K)) →
    Leads F.E K s0 ((runsDB F ops C (freshOf sm done)).run als k b t h next K)
  | [], done, als, t, h, next, H => H t h next als rfl
  | i :: l, done, als, t, h, next, H => by
    cases hmem : mem i done with
    | true =>
      rw [freshOf_cons_true hmem] at H ⊢
      refine runs_ok hm C l done als t h next (fun t' h' next' als' hr => H t' h' next' als' ?_)
      simp only [runSmalls, hmem]
      exact hr
    | false =>
      rw [freshOf_cons_false hmem] at H ⊢
      unfold runsDB
      cases hi : nth i ops with
      | none => exact Leads.no
      | some o =>
        simp only
        have hd := maxD_mem hm i hi
        refine guardDB_ok (fun hg => ?_) (fun hg => ?_)
        · cases hc : cls o with
          | small =>
            refine optO_ok (fun v hv => ?_)
            refine runs_ok hm C l (i :: done) als _ h next (fun t' h' next' als' hr => H t' h' next' als' ?_)
            simp only [runSmalls, hmem, hi, hg, hc, sbOf_ok hF hv, setDst_ok hd]
            exact hr
          | alloc =>
            simp only
            split
            · rename_i cs e z hab
              show Leads F.E K s0 ((runsDB F ops C (freshOf l (i :: done))).run ((i, next) :: als) k b (putT (dstKey o.dst) (mkAl next z) t) (setO (.row (cs t) e) h next) next.succ K)
              refine runs_ok hm C l (i :: done) _ _ _ _ (fun t' h' next' als' hr => H t' h' next' als' ?_)
              simp only [runSmalls, hmem, hi, hg, hc, abOf_ok hF hab, setDst_ok hd]
              rw [setO_eq] at hr
              exact hr
            · show Leads F.E K s0 (dAlloc F.E o i (dstKey o.dst) _ als k b t h next K)
              unfold dAlloc
              split
              · rename_i cs e z hal
                refine runs_ok hm C l (i :: done) _ _ _ _ (fun t' h' next' als' hr => H t' h' next' als' ?_)
                simp only [runSmalls, hmem, hi, hg, hc, hal, setDst_ok hd]
                rw [setO_eq] at hr
                exact hr
              · exact Leads.no
          | eff => exact Leads.no
        · refine runs_ok hm C l (i :: done) als _ h next (fun t' h' next' als' hr => H t' h' next' als' ?_)
          simp only [runSmalls, hmem, hi, hg, setDst_ok hd]
          exact hr
theorem checks_ok (hm : maxD ops ≤ nOf b) (C : DB) {done : List Nat} {als : List (Nat × Pos)} {t : T AV} {h : T Obj} {next : Pos} : ∀ (l : List Nat),
    (checkSmalls F.E (nOf b) bs ops { h, next, t, done, als } l = true → Leads F.E K s0 (C.run als k b t h next K)) →
    Leads F.E K s0 ((checksDB F bs done ops C l).run als k b t h next K)
  | [], H => H rfl
  | i :: l, H => by
    unfold checksDB
    cases hi : nth i ops with
    | none => exact Leads.no
    | some o =>
      simp only
      have hd := maxD_mem hm i hi
      cases hs : seesOk bs done ops i o with
      | false => exact Leads.no
      | true =>
        simp only
        have go : checkSmall F.E (nOf b) bs ops { h, next, t, done, als } i = true → Leads F.E K s0 ((checksDB F bs done ops C l).run als k b t h next K) := by
          intro hc
          refine checks_ok hm C l (fun hl => H ?_)
          simp only [checkSmalls, hc, hl, Bool.and_self]
        refine guardDB_ok (fun hg => ?_) (fun hg => ?_)
        · cases hc : cls o with
          | small =>
            refine ifO_ok (fun hz => ?_)
            cases hv : (sbOf F o).run h t with
            | none => rw [hv] at hz; cases hz
            | some v =>
              rw [hv] at hz
              refine go ?_
              simp only [checkSmall, hi, hs, hg, hc, sbOf_ok hF hv]
              exact holds_ok hd hz
          | alloc =>
            simp only
            split
            · rename_i cs e z hab
              show Leads F.E K s0 (cRow i cs e z (dstKey o.dst) _ als k b t h next K)
              unfold cRow
              split
              · rename_i g hg'
                rw [getO_eq]
                split
                · rename_i cs' e' hrow
                  refine ifO_ok (fun hz => ?_)
                  rw [andB_eq, andB_eq, beqL_eq, Bool.and_eq_true, Bool.and_eq_true] at hz
                  refine go ?_
                  simp only [checkSmall, hi, hs, hg, hc, abOf_ok hF hab, hg', hrow, hz.1, hz.2.1, holds_ok hd hz.2.2, Bool.and_self]
                · exact Leads.no
              · exact Leads.no
            · show Leads F.E K s0 (cAlloc F.E o i (dstKey o.dst) _ als k b t h next K)
              unfold cAlloc
              split
              · rename_i cs e z g hal hg'
                rw [getO_eq]
                split
                · rename_i cs' e' hrow
                  refine ifO_ok (fun hz => ?_)
                  rw [andB_eq, andB_eq, beqL_eq, Bool.and_eq_true, Bool.and_eq_true] at hz
                  refine go ?_
                  simp only [checkSmall, hi, hs, hg, hc, hal, hg', hrow, hz.1, hz.2.1, holds_ok hd hz.2.2, Bool.and_self]
                · exact Leads.no
              · exact Leads.no
          | eff => exact Leads.no
        · refine ifO_ok (fun hz => go ?_)
          simp only [checkSmall, hi, hs, hg]
          exact holds_ok hd hz
theorem phase_ok (hm : maxD ops ≤ nOf b) : ∀ (todo : List Nat) (last : Option Nat) (done : List Nat) (als : List (Nat × Pos)) (t : T AV) (h : T Obj) (next : Pos),
    Leads F.E K (mkSt b t (.draw ops bs last todo done als :: k) h next) ((phaseDB F ops bs last todo done).run als k b t h next K)
  | [], last, done, als, t, h, next => by
    unfold phaseDB
    simp only
    refine runs_ok hF hm _ _ _ _ _ _ _ (fun t' h' next' als' hr => ?_)
    refine checks_ok hF hm _ _ (fun hck => ?_)
    refine Leads.here ?_
    rw [step_draw]
    simp only [drawA, hr, hck]
  | i :: rest, last, done, als, t, h, next => by
    unfold phaseDB
    simp only
    refine runs_ok hF hm _ _ _ _ _ _ _ (fun t' h' next' als' hr => ?_)
    refine checks_ok hF hm _ _ (fun hck => ?_)
    generalize hdn : doneOf (freshOf (smalls bs last (i :: rest) ops 0) done) done = done' at *
    have hstep : stepA F.E (mkSt b t (.draw ops bs last (i :: rest) done als :: k) h next) = _ := step_draw
    simp only [drawA, hr, hck] at hstep
    cases hi : nth i ops with
    | none => exact Leads.no
    | some o =>
      have hd := maxD_mem hm i hi
      simp only [hi] at hstep
      simp only
      cases hs : seesOk bs done' ops i o && isEff o with
      | false => exact Leads.no
      | true =>
        rw [Bool.and_eq_true] at hs
        simp only [hs.1] at hstep
        have heff : cls o = .eff := by
          have := hs.2
          unfold isEff at this
          split at this
          · assumption
          · cases this
        simp only
        refine guardDB_ok (fun hg => ?_) (fun hg => ?_)
        · simp only [hg] at hstep
          refine effCB_ok (C := ⟨dNext (phaseDB F ops bs (some i) rest done') als'⟩) hF heff (fun v h2 next2 hv => ?_) (fun r hr' hne => ?_)
          · simp only [hv] at hstep
            refine Leads.step (hstep.trans ?_) (phase_ok hm rest (some i) done' als' (putT (dstKey o.dst) v t') h2 next2)
            obtain ⟨fn, n, defers, deferred, roundOf, cs⟩ := b
            simp only [mkSt_mk, applyA, finishA, hi, setDst_ok (n := n) hd, onA]
          · simp only [hr'] at hstep
            exact hstep
        · simp only [hg, setDst_ok hd] at hstep
          exact Leads.step hstep (phase_ok hm rest (some i) done' als' (putT (dstKey o.dst) undefA t') h' next')
theorem drawDB_ok {last : Option Nat} {todo done : List Nat} {als : List (Nat × Pos)} {t : T AV} {h : T Obj} {next : Pos} :
    Leads F.E K (mkSt b t (.draw ops bs last todo done als :: k) h next) ((drawDB F ops bs last todo done).run als k b t h next K) :=
  ifO_ok (fun hz => phase_ok hF (Nat.le_of_ble_eq_true hz) todo last done als t h next)
end
end Go.Vm
end
