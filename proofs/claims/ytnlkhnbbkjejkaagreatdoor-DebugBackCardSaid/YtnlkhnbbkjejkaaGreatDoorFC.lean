/- DebugBack returns true for every list, index and number, and changes nothing that lay before. No conditions. Part FC. -/
import Derived.Test.YtnlkhnbbkjejkaaGreatDoorFB
set_option linter.unusedSimpArgs false
set_option linter.unusedVariables false
namespace Go.Vm

/-! ### what a quick run comes to -/
def Leads (E : Env) (K : KT) (s : St) (r : Option Out) : Prop :=
  ∀ o, r = some o → ∃ m b t todo h next, runA E (m + 1) s = some (.on (mkSt b t todo h next)) ∧ K b t todo h next = some o
theorem mkSt_mk (fn : FuncId) (n : Nat) (defers : List ADef) (deferred : Bool) (roundOf : Option Pos) (cs : List AFrame) (t : T AV) (todo : List AItem) (h : T Obj) (next : Pos) :
    mkSt ⟨fn, n, defers, deferred, roundOf, cs⟩ t todo h next = ⟨⟨fn, n, t, todo, defers, .run, deferred, roundOf⟩, cs, h, next⟩ := rfl

section
variable {E : Env} {K : KT} {s s1 : St} {r : Option Out}
theorem Leads.no : Leads E K s none := fun _ h => by cases h
theorem Leads.same (h : stepA E s = stepA E s1) (hl : Leads E K s1 r) : Leads E K s r := by
  intro o ho
  obtain ⟨m, b, t, todo, hh, next, h1, h2⟩ := hl o ho
  refine ⟨m, b, t, todo, hh, next, ?_, h2⟩
  simp only [runA, h] at h1 ⊢
  exact h1
theorem Leads.step (h : stepA E s = some (.on s1)) (hl : Leads E K s1 r) : Leads E K s r := by
  intro o ho
  obtain ⟨m, b, t, todo, hh, next, h1, h2⟩ := hl o ho
  refine ⟨m + 1, b, t, todo, hh, next, ?_, h2⟩
  rw [runA, h]
  exact h1
theorem Leads.here {b : FB} {t : T AV} {todo : List AItem} {h : T Obj} {next : Pos} (hs : stepA E s = some (.on (mkSt b t todo h next))) : Leads E K s (K b t todo h next) := by
  intro o ho
  refine ⟨0, b, t, todo, h, next, ?_, ho⟩
  simp only [runA, hs]
theorem backK_ok : ∀ (f : Nat) (s : St) (o : Out), backK E K f s = some o → ∃ m b t todo h next, runA E m s = some (.on (mkSt b t todo h next)) ∧ K b t todo h next = some o
  | 0, s, o, h => by cases h
  | f + 1, ⟨⟨fn, n, t, todo, defers, mode, deferred, roundOf⟩, cs, h, next⟩, o, hb => by
    have key : ∀ md, (match stepA E ⟨⟨fn, n, t, todo, defers, md, deferred, roundOf⟩, cs, h, next⟩ with | some (.on s') => backK E K f s' | _ => none) = some o →
        ∃ m b t' todo' h' next', runA E m ⟨⟨fn, n, t, todo, defers, md, deferred, roundOf⟩, cs, h, next⟩ = some (.on (mkSt b t' todo' h' next')) ∧ K b t' todo' h' next' = some o := by
      intro md hmd
      split at hmd
      · rename_i s' hs'
        obtain ⟨m, b, t', todo', h', next', h1, h2⟩ := backK_ok f s' o hmd
        refine ⟨m + 1, b, t', todo', h', next', ?_, h2⟩
        rw [runA, hs']
        exact h1
      · cases hmd
    cases mode with
    | run => exact ⟨0, ⟨fn, n, defers, deferred, roundOf, cs⟩, t, todo, h, next, rfl, hb⟩
    | returning => exact key _ hb
    | panicking ch => exact key _ hb
theorem Leads.back {f : Nat} (h : stepA E s = some (.on s1)) : Leads E K s (backK E K f s1) := by
  intro o ho
  obtain ⟨m, b, t, todo, hh, next, h1, h2⟩ := backK_ok f s1 o ho
  refine ⟨m, b, t, todo, hh, next, ?_, h2⟩
  rw [runA, h]
  exact h1
theorem Leads.backO {x : Option St} (h : stepA E s = onA x) : Leads E K s (backO E K x) := by
  cases x with
  | none => exact Leads.no
  | some s1 => exact Leads.back h
theorem Leads.slow : Leads E K s (slowK E K s) := by
  unfold slowK
  split
  · rename_i s' h; exact Leads.back h
  · exact Leads.no
end

/-! ### values written -/
theorem putT_none (v : AV) (t : T AV) : putT none v t = t := rfl
theorem putT_some (p : Pos) (v : AV) (t : T AV) : putT (some p) v t = setV v t p := rfl
theorem setDst_ok {n : Nat} {d : Option Nat} {t : T AV} {v : AV} (h : ∀ k, d = some k → Nat.succ k ≤ n) : setDst n t d v = some (putT (dstKey d) v t) := by
  cases d with
  | none => rfl
  | some k =>
    have h1 : Nat.blt k n = true := Nat.ble_eq_true_of_le (h k rfl)
    simp only [setDst, h1, dstKey, putT_some, setV_eq, T.put]
theorem optO_ok {E : Env} {K : KT} {s0 : St} {r : Option AV} {f : AV → Option Out} (H : ∀ v, r = some v → Leads E K s0 (f v)) : Leads E K s0 (optO r f) := by
  cases r with
  | none => exact Leads.no
  | some v => exact H v rfl
theorem ifO_ok {E : Env} {K : KT} {s0 : St} {z : Bool} {r : Option Out} (H : z = true → Leads E K s0 r) : Leads E K s0 (ifO z r) := by
  cases z with
  | false => exact Leads.no
  | true => exact H rfl
theorem smallCB_ok {E : Env} {K : KT} {s0 : St} {s : SB} {d : Option Nat} {C : CB} {k : List AItem} {b : FB} {t : T AV} {h : T Obj} {next : Pos}
    (H : ∀ v, s.run h t = some v → Leads E K s0 (C.run k b (putT (dstKey d) v t) h next K)) : Leads E K s0 ((smallCB s d C).run k b t h next K) := by
  cases d with
  | none => exact optO_ok H
  | some d => exact optO_ok H
theorem undefCB_eq {d : Option Nat} {C : CB} {k : List AItem} {b : FB} {t : T AV} {h : T Obj} {next : Pos} {K : KT} : (undefCB d C).run k b t h next K = C.run k b (putT (dstKey d) undefA t) h next K := by
  cases d <;> rfl

/-! ### effects -/
theorem opA_eff {E : Env} {h : T Obj} {next : Pos} {t : T AV} {o : Oper} (hc : cls o ≠ .small) : opA E h next t o = opE E h next t o := by
  unfold opA
  cases hq : cls o with
  | small => exact absurd hq hc
  | alloc => rfl
  | eff => rfl
theorem argsR_eq : ∀ (l : List AV) (i : Nat) (t : T AV), argsR l i t = argsT l i t
  | [], _, _ => rfl
  | x :: l, i, t => by
    show argsR l (Nat.add i 1) (setV x t (nk i)) = argsT l (Nat.add i 1) (t.put i x)
    rw [argsR_eq l, setV_eq]
    rfl
theorem fnInfo_ok {fn : Func} {n : Nat} {c : Code} (h : fnInfo fn = some (n, c)) : fn.body = some c ∧ fn.ntmps = n ∧ (fn.name == "runtime.NumGoroutine") = false := by
  unfold fnInfo at h
  split at h
  · rename_i c' hc
    split at h
    · cases h
    · rename_i hn
      cases h
      exact ⟨hc, rfl, hn⟩
  · cases h

section
variable {F : FE} (hF : FOK F)
variable {it : AItem} {o : Oper} {C : CB} {s0 : St} {k : List AItem} {b : FB} {t : T AV} {h : T Obj} {next : Pos} {K : KT}

theorem genK_ok (Hval : ∀ v h' next', opA F.E h next t o = some (.val v h' next') → Leads F.E K s0 (C.run k b (putT (dstKey o.dst) v t) h' next' K))
    (Hoth : ∀ r, opA F.E h next t o = some r → (∀ v h' n', r ≠ .val v h' n') → stepA F.E s0 = onA (applyA F.E (mkSt b t (it :: k) h next) r)) :
    Leads F.E K s0 (genK F.E it o (dstKey o.dst) C k b t h next K) := by
  unfold genK
  split
  · rename_i r hr
    split
    · exact Hval _ _ _ hr
    · rename_i hne
      exact Leads.backO (Hoth r hr (fun v h' n' e => hne v h' n' e))
  · exact Leads.no
/-- A function is entered. -/
theorem enter_leads {f : FuncId} {fn : Func} {n : Nat} {c : Code} {args : List AV} (hfn : F.E.P.funcs[f]? = some fn) (hi : fnInfo fn = some (n, c)) (hh : hooked f F.E = false) (hn : Nat.ble (len args) n = true)
    (hs : stepA F.E s0 = onA (applyA F.E (mkSt b t (it :: k) h next) (.enter f args))) :
    Leads F.E K s0 (FB.rec (motive := fun _ => Option Out) (fun fn n' defers deferred roundOf cs => K ⟨f, n, [], false, none, ⟨fn, n', t, it :: k, defers, .run, deferred, roundOf⟩ :: cs⟩ (argsR args 0 .leaf) [.code c] h next) b) := by
  obtain ⟨fn0, n0, defers, deferred, roundOf, cs⟩ := b
  obtain ⟨h1, h2, h3⟩ := fnInfo_ok hi
  have hk : hookOf f F.E.hooks = none := by
    unfold hooked at hh
    cases hq : hookOf f F.E.hooks with
    | none => rfl
    | some x => rw [hq] at hh; cases hh
  refine Leads.here ?_
  rw [hs, mkSt_mk, mkSt_mk, argsR_eq]
  simp only [applyA, hk, enterA, hfn, h1, h2, hn, onA]
theorem hcallF {f : FuncId} {fn : Func} {n : Nat} {c : Code} {args : List AV} (hfn : F.E.P.funcs[f]? = some fn) (hi : fnInfo fn = some (n, c)) : callF F.E h next f args = some (.enter f args) := by
  obtain ⟨h1, h2, h3⟩ := fnInfo_ok hi
  simp only [callF, hfn, h1, h3]
include hF
theorem fnCallOf_ok {x : AV} {f : FuncId} {n : Nat} {c : Code} {first cap : List AV} (hx : fnCallOf F x = some ⟨f, n, c, first, cap⟩) :
    x = .func (.func f) first cap ∧ hooked f F.E = false ∧ ∃ fn, F.E.P.funcs[f]? = some fn ∧ fnInfo fn = some (n, c) := by
  unfold fnCallOf at hx
  rw [asFunF_eq] at hx
  split at hx
  · split at hx
    · split at hx
      · rename_i fn hfn
        split at hx
        · rename_i n' c' hi
          split at hx
          · rename_i hh
            cases hx
            rw [getFn_eq] at hfn
            exact ⟨rfl, hh, fn, hF.funcs _ _ hfn, hi⟩
          · cases hx
        · cases hx
      · cases hx
    · cases hx
  · cases hx
theorem callCB_ok {c : Call} {slow : CB} (ho : o.op = .call c)
    (Hoth : ∀ r, opE F.E h next t o = some r → (∀ v h' n', r ≠ .val v h' n') → stepA F.E s0 = onA (applyA F.E (mkSt b t (it :: k) h next) r)) (Hslow : Leads F.E K s0 (slow.run k b t h next K)) :
    Leads F.E K s0 ((callCB F c it slow).run k b t h next K) := by
  unfold callCB
  split
  · rename_i f hcal
    split
    · rename_i fn args hfn hargs hhk
      split
      · rename_i n body hi
        split
        · rename_i hn
          rw [getFn_eq] at hfn
          have hfn' := hF.funcs _ _ hfn
          have hop : opE F.E h next t o = some (.enter f (runObs args t)) := by
            unfold opE
            rw [ho]
            simp only [obsOf_ok hargs t, hcal, evalA, invokeA, List.nil_append, List.append_nil, hcallF hfn' hi]
          have hs := Hoth _ hop (fun _ _ _ e => by cases e)
          have := enter_leads (K := K) hfn' hi hhk (by rw [runObs_len]; exact hn) hs
          obtain ⟨fn0, n0, defers, deferred, roundOf, cs⟩ := b
          exact this
        · exact Hslow
      · exact Hslow
    · exact Hslow
  · rename_i x hne hcal
    split
    · rename_i g args hg hargs
      show Leads F.E K s0 (callDK F g it args slow k b t h next K)
      unfold callDK
      split
      · rename_i f n body first cap hx
        obtain ⟨h1, h2, fn, h3, h4⟩ := fnCallOf_ok hF hx
        simp only
        split
        · rename_i hn
          rw [appV_eq, appV_eq] at hn ⊢
          rw [lenV_eq] at hn
          have hop : opE F.E h next t o = some (.enter f (first ++ (runObs args t ++ cap))) := by
            unfold opE
            rw [ho]
            simp only [obsOf_ok hargs t, hcal, obOf_ok hg t, h1, invokeA, List.append_assoc, hcallF h3 h4]
          exact enter_leads h3 h4 h2 hn (Hoth _ hop (fun _ _ _ e => by cases e))
        · exact Leads.no
      · exact Hslow
    · exact Hslow
  · exact Hslow
theorem abOf_ok {cs : T AV → List AV} {e : TypeId} {z : Option (Nat × Nat)} (hab : abOf F o = some ⟨cs, e, z⟩) : allocA F.E t o = some (cs t, e, z) := by
  unfold abOf at hab
  split at hab
  · rename_i e' ho
    split at hab
    · rename_i z' hz
      cases hab
      unfold allocA
      rw [ho]
      simp only [zeroF_ok hF hz]
    · cases hab
  · rename_i e' x ho
    split at hab
    · rename_i a ha
      cases hab
      unfold allocA
      rw [ho]
      simp only [obOf_ok ha t, cellsV_eq]
    · cases hab
  · cases hab
omit hF in
theorem opE_alloc {cs : List AV} {e : TypeId} {z : Option (Nat × Nat)} (hc : cls o = .alloc) (ha : allocA F.E t o = some (cs, e, z)) : opE F.E h next t o = some (.val (mkAl next z) (h.set (.row cs e) next) next.succ) := by
  unfold cls at hc
  unfold opE
  split at hc <;> first
    | (cases hc; done)
    | (split at hc <;> cases hc; done)
    | (rename_i ho; rw [ho]; simp only [opE.newA, ha]; done)
theorem effCB_ok (hc : cls o = .eff) (Hval : ∀ v h' next', opE F.E h next t o = some (.val v h' next') → Leads F.E K s0 (C.run k b (putT (dstKey o.dst) v t) h' next' K))
    (Hoth : ∀ r, opE F.E h next t o = some r → (∀ v h' n', r ≠ .val v h' n') → stepA F.E s0 = onA (applyA F.E (mkSt b t (it :: k) h next) r)) :
    Leads F.E K s0 ((effCB F it o C).run k b t h next K) := by
  have hA : opA F.E h next t o = opE F.E h next t o := opA_eff (by rw [hc]; intro e; cases e)
  have Hgen : Leads F.E K s0 (genK F.E it o (dstKey o.dst) C k b t h next K) := genK_ok (by rw [hA]; exact Hval) (by rw [hA]; exact Hoth)
  unfold effCB
  split
  · rename_i x ho
    split
    · rename_i a ha
      refine smallCB_ok (fun v hv => ?_)
      cases hv
      refine Hval _ _ _ ?_
      unfold opE; rw [ho]
      simp only [obOf_ok ha t]
    · exact Hgen
  · rename_i ty a x ho
    split
    · rename_i a' x' n ha hx hn
      show Leads F.E K s0 (storeK F.E.base n a' x' (dstKey o.dst) C k b t h next K)
      unfold storeK
      rw [asPtrH_eq]
      split
      · rename_i p w c hp
        split
        · rename_i hl
          rw [lenV_eq, cellsV_eq] at hl
          rw [setF_eq, cellsV_eq]
          cases hs : setCells F.E.base h p w c (x'.run t).cells with
          | none => exact Leads.no
          | some h' =>
            refine Hval undefA h' next ?_
            unfold opE; rw [ho]
            simp only [obOf_ok ha t, obOf_ok hx t, storeA, hp, szF_ok hF hn, hl, hs]
        · exact Leads.no
      · exact Leads.no
    · exact Hgen
  · rename_i ty m key x ho
    split
    · rename_i m' key' x' hm hk hx
      split
      · rename_i kt e hu
        split
        · rename_i kd hkd
          split
          · rename_i hpk
            show Leads F.E K s0 (insertK F.E.base kd m' key' x' (dstKey o.dst) C k b t h next K)
            unfold insertK
            rw [asMapH_eq]
            split
            · rename_i p hp
              rw [valR_eq]
              split
              · exact Leads.no
              · rename_i hold
                rw [getO_eq]
                split
                · rename_i es hes
                  cases hput : putA (eqKey kd) (key'.run t) (x'.run t) es with
                  | none => exact Leads.no
                  | some es' =>
                    refine Hval undefA (setO (.map es') h p) next ?_
                    unfold opE; rw [ho]
                    simp only [obOf_ok hm t, obOf_ok hk t, obOf_ok hx t, opE.updateA, underF_ok hF hu, hp, isOld, hold, hes, underF_ok hF hkd, hpk, hput, setO_eq]
                · exact Leads.no
            · exact Leads.no
          · exact Hgen
        · exact Hgen
      · exact Hgen
    · exact Hgen
  · rename_i c ho
    exact callCB_ok hF ho Hoth Hgen
  · exact Hgen
theorem opCB_ok (Hval : ∀ v h' next', opA F.E h next t o = some (.val v h' next') → Leads F.E K s0 (C.run k b (putT (dstKey o.dst) v t) h' next' K))
    (Hoth : ∀ r, opA F.E h next t o = some r → (∀ v h' n', r ≠ .val v h' n') → stepA F.E s0 = onA (applyA F.E (mkSt b t (it :: k) h next) r)) :
    Leads F.E K s0 ((opCB F it o C).run k b t h next K) := by
  unfold opCB
  cases hc : cls o with
  | small =>
    refine smallCB_ok (fun v hv => ?_)
    refine Hval _ _ _ ?_
    unfold opA
    rw [hc]
    simp only [sbOf_ok hF hv]
  | alloc =>
    simp only
    unfold allocCB
    split
    · rename_i cs e z d hab hd
      have h1 := opE_alloc (next := next) (h := h) hc (abOf_ok hF (t := t) hab)
      have h2 : opA F.E h next t o = _ := (opA_eff (by rw [hc]; intro e; cases e)).trans h1
      have := Hval _ _ _ h2
      rw [hd] at this
      show Leads F.E K s0 (C.run k b (setV (mkAl next z) t (nk d)) (setO (.row (cs t) e) h next) next.succ K)
      rw [setO_eq]
      exact this
    · exact genK_ok Hval Hoth
  | eff =>
    have hA : opA F.E h next t o = opE F.E h next t o := opA_eff (by rw [hc]; intro e; cases e)
    rw [hA] at Hval Hoth
    exact effCB_ok hF hc Hval Hoth
end
end Go.Vm
