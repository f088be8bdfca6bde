/- DebugBack returns true for every list, index and number, and changes nothing that lay before. No conditions. Part FE. -/
import Derived.Test.YtnlkhnbbkjejkaaGreatDoorFD
import Derived.Test.YtnlkhnbbkjejkaaGreatDoorVE
set_option linter.unusedSimpArgs false
set_option linter.unusedVariables false
section
namespace Go.Vm

theorem exitL_eq (id : Nat) : ∀ l : List AItem, exitL id l = exitA id l
  | [] => rfl
  | x :: k => by
    have ih := exitL_eq id k
    cases x with
    | inBlock i =>
      show Bool.rec (motive := fun _ => List AItem → Option (List AItem) → Option (List AItem)) (fun _ ih => ih) (fun k _ => some k) (Nat.beq i id) k (exitL id k) = _
      simp only [exitA]
      cases Nat.beq i id with
      | true => rfl
      | false => exact ih
    | _ => exact ih

section
variable {F : FE} (hF : FOK F)
include hF
theorem resSB_ok {r : ResultVar} {s : SB} {h : T Obj} {t : T AV} {v : AV} (hs : resSB F r = some s) (hv : s.run h t = some v) :
    (match r with | .tmp k => some (tget t k) | .cell a ty => loadA F.E.P h ty (tget t a)) = some v := by
  cases r with
  | tmp k =>
    simp only [resSB, Option.some.injEq] at hs
    subst hs
    simp only [sMove, obTmp, getV_eq] at hv
    exact hv
  | cell a ty =>
    simp only [resSB] at hs
    split at hs
    · rename_i hz
      cases hs
      obtain ⟨p, w, c, h1, h2⟩ := asPtr_some hv
      rw [cellR_eq] at h2
      have h1' : tget t a = .ptr p w c := by rw [← getV_eq]; exact h1
      simp only [loadA, aggF_ok hF hz, h1']
      exact h2
    · rename_i n hz hn
      cases hs
      obtain ⟨p, w, c, h1, h2⟩ := asPtr_some hv
      rw [cellsR_eq, toAgg_eq] at h2
      have h1' : tget t a = .ptr p w c := by rw [← getV_eq]; exact h1
      simp only [loadA, aggF_ok hF hz, szF_ok hF hn, h1']
      exact h2
    · cases hs
omit hF in
theorem runSBs_cons (s : SB) (l : List SB) (h : T Obj) (t : T AV) : runSBs (s :: l) h t = (match s.run h t with
    | some v => match runSBs l h t with
      | some k => some (v :: k)
      | none => none
    | none => none) := by
  show Option.rec (motive := fun _ => (T Obj → T AV → Option (List AV)) → T Obj → T AV → Option (List AV)) (fun _ _ _ => none)
    (fun v ih h t => Option.rec (motive := fun _ => AV → Option (List AV)) (fun _ => none) (fun l v => some (v :: l)) (ih h t) v) (s.run h t) (fun h t => runSBs l h t) h t = _
  cases s.run h t with
  | none => rfl
  | some v =>
    show Option.rec (motive := fun _ => AV → Option (List AV)) (fun _ => none) (fun l v => some (v :: l)) (runSBs l h t) v = _
    cases runSBs l h t <;> rfl
theorem resSBs_ok {h : T Obj} {t : T AV} : ∀ {rs : List ResultVar} {l : List SB} {vs : List AV}, resSBs F rs = some l → runSBs l h t = some vs → resA F.E.P t h rs = some vs
  | [], l, vs, hl, hv => by
    simp only [resSBs, Option.some.injEq] at hl
    subst hl
    exact hv
  | r :: rs, l, vs, hl, hv => by
    simp only [resSBs] at hl
    split at hl
    · rename_i s hs
      split at hl
      · rename_i l' hl'
        cases hl
        rw [runSBs_cons] at hv
        split at hv
        · rename_i v hv1
          split at hv
          · rename_i k hk
            cases hv
            have h1 := resSB_ok hF hs hv1
            have h2 := resSBs_ok hl' hk
            cases r with
            | tmp k => cases h1; simp only [resA, h2]
            | cell a ty => simp only at h1; simp only [resA, h1, h2]
          · cases hv
        · cases hv
      · cases hl
    · cases hl
theorem resOf_ok {fn : Func} {s : SB} {h : T Obj} {t : T AV} {v : AV} (hs : resOf F fn = some s) (hv : s.run h t = some v) : ∃ vs, resA F.E.P t h fn.results.toList = some vs ∧ resV vs = v := by
  unfold resOf at hs
  split at hs
  · rename_i s' hl
    cases hs
    refine ⟨[v], resSBs_ok hF hl ?_, rfl⟩
    rw [runSBs_cons, hv]
    rfl
  · rename_i l hne hl
    cases hs
    simp only [manyRes] at hv
    split at hv
    · rename_i vs hvs
      cases hv
      refine ⟨vs, resSBs_ok hF hl hvs, ?_⟩
      cases vs with
      | nil => rfl
      | cons x vs => cases vs with
        | cons y vs => rfl
        | nil =>
          exfalso
          cases l with
          | nil => cases hvs
          | cons s l => cases l with
            | nil => exact hne s rfl
            | cons s' l =>
              rw [runSBs_cons, runSBs_cons] at hvs
              split at hvs
              · split at hvs
                · rename_i k hk
                  split at hk
                  · split at hk
                    · cases hk; cases hvs
                    · cases hk
                  · cases hk
                · cases hvs
              · cases hvs
    · cases hv
  · cases hs

theorem finK_ok {K : KT} {s1 : St} {v : AV} {c : AFrame} {cs : List AFrame} {h : T Obj} {next : Pos} (hs : ∀ c', finishA c v = some c' → stepA F.E s1 = some (.on ⟨c', cs, h, next⟩)) :
    Leads F.E K s1 (finK F v c cs h next K) := by
  obtain ⟨fn, n, t, todo, defers, mode, deferred, roundOf⟩ := c
  cases mode with
  | returning => exact Leads.no
  | panicking ch => exact Leads.no
  | run => cases todo with
    | nil => exact Leads.no
    | cons x k => cases x with
      | code c => exact Leads.no
      | inBlock id => exact Leads.no
      | inLoop body => exact Leads.no
      | inScope body => exact Leads.no
      | endRange l => exact Leads.no
      | draw ops bs last todo done als => exact Leads.no
      | inRange l => exact Leads.here (b := ⟨fn, n, defers, deferred, roundOf, cs⟩) (hs _ rfl)
      | beginRound => exact Leads.here (b := ⟨fn, n, defers, deferred, roundOf, cs⟩) (hs _ rfl)
      | reg ops rest => cases rest with
        | nil => exact Leads.no
        | cons o rest =>
          show Leads F.E K s1 (finRegK F v k ⟨fn, n, defers, deferred, roundOf, cs⟩ t h next K ops o rest)
          unfold finRegK
          cases hd : o.dst with
          | none =>
            refine Leads.step (hs ⟨fn, n, t, .reg ops rest :: k, defers, .run, deferred, roundOf⟩ ?_) (regionCB_ok hF (b := ⟨fn, n, defers, deferred, roundOf, cs⟩))
            simp only [finishA, hd, setDst]
          | some d =>
            refine ifO_ok (fun hz => ?_)
            have hz' : Nat.blt d n = true := hz
            refine Leads.step (hs ⟨fn, n, setV v t (nk d), .reg ops rest :: k, defers, .run, deferred, roundOf⟩ ?_) (regionCB_ok hF (b := ⟨fn, n, defers, deferred, roundOf, cs⟩))
            simp only [finishA, hd, setDst, hz', setV_eq, T.put]
      | drawIn ops bs e todo done als =>
        show Leads F.E K s1 (finDrawK F v k ⟨fn, n, defers, deferred, roundOf, cs⟩ t h next K ops bs e todo done als)
        unfold finDrawK
        split
        · rename_i o ho
          split
          · rename_i d hd
            refine ifO_ok (fun hz => ?_)
            have hz' : Nat.blt d n = true := hz
            refine Leads.step (hs ⟨fn, n, setV v t (nk d), .draw ops bs (some e) todo done als :: k, defers, .run, deferred, roundOf⟩ ?_) (drawDB_ok hF (b := ⟨fn, n, defers, deferred, roundOf, cs⟩))
            simp only [finishA, ho, hd, setDst, hz', setV_eq, T.put]
          · rename_i hd
            refine Leads.step (hs ⟨fn, n, t, .draw ops bs (some e) todo done als :: k, defers, .run, deferred, roundOf⟩ ?_) (drawDB_ok hF (b := ⟨fn, n, defers, deferred, roundOf, cs⟩))
            simp only [finishA, ho, hd, setDst]
        · exact Leads.no

theorem retK_ok {K : KT} {it : List AItem} {b : FB} {t : T AV} {h : T Obj} {next : Pos} {j : Option Code} (hj : j = none ∨ j = some .ret) (hit : ∀ rs, drawTop rs it = true)
    (hs : stepA F.E (mkSt b t it h next) = onA (leaveA F.E.base (mkSt b t it h next) j)) : Leads F.E K (mkSt b t it h next) (retK F it b t h next K) := by
  obtain ⟨fn, n, defers, deferred, roundOf, cs⟩ := b
  have slow : Leads F.E K (mkSt ⟨fn, n, defers, deferred, roundOf, cs⟩ t it h next) (slowK F.E K ⟨⟨fn, n, t, it, defers, .run, deferred, roundOf⟩, cs, h, next⟩) := Leads.slow
  cases roundOf with
  | some l => exact slow
  | none => cases defers with
    | cons d ds => exact slow
    | nil => cases deferred with
      | true => exact slow
      | false => cases cs with
        | nil => exact slow
        | cons c cs =>
          show Leads F.E K _ (match getFn F.funcs (nk fn) with
            | some fnc => match resOf F fnc with
              | some s => optO (s.run h t) (fun v => finK F v c cs h next K)
              | none => none
            | none => none)
          split
          · rename_i fnc hfn
            rw [getFn_eq] at hfn
            have hfn' := hF.funcs _ _ hfn
            split
            · rename_i s hres
              refine optO_ok (fun v hv => ?_)
              obtain ⟨vs, hvs, hvv⟩ := resOf_ok hF hres hv
              have hl : leaveA F.E.base (mkSt ⟨fn, n, [], false, none, c :: cs⟩ t it h next) j = some ⟨⟨fn, n, t, it, [], .returning, false, none⟩, c :: cs, h, next⟩ := by
                rcases hj with rfl | rfl <;> rfl
              rw [hl] at hs
              refine Leads.step hs (finK_ok hF (fun c' hc' => ?_))
              simp only [stepA, hfn', hit, hvs, hvv, hc']
            · exact Leads.no
          · exact Leads.no

theorem codeCB_ok : ∀ (c : Code) (k : List AItem) (b : FB) (t : T AV) (h : T Obj) (next : Pos) (K : KT), Leads F.E K (mkSt b t (.code c :: k) h next) ((codeCB F c).run k b t h next K)
  | .skip, k, b, t, h, next, K => Leads.here (by obtain ⟨fn, n, defers, deferred, roundOf, cs⟩ := b; rfl)
  | .label l, k, b, t, h, next, K => Leads.here (by obtain ⟨fn, n, defers, deferred, roundOf, cs⟩ := b; rfl)
  | .seq x y, k, b, t, h, next, K => by
    refine Leads.step (s1 := mkSt b t (.code x :: .code y :: k) h next) ?_ (codeCB_ok x (.code y :: k) b t h next K)
    obtain ⟨fn, n, defers, deferred, roundOf, cs⟩ := b; rfl
  | .block id x, k, b, t, h, next, K => by
    refine Leads.step (s1 := mkSt b t (.code x :: .inBlock id :: k) h next) ?_ (codeCB_ok x (.inBlock id :: k) b t h next K)
    obtain ⟨fn, n, defers, deferred, roundOf, cs⟩ := b; rfl
  | .loop x, k, b, t, h, next, K => by
    refine Leads.step (s1 := mkSt b t (.code x :: .inLoop x :: k) h next) ?_ (codeCB_ok x (.inLoop x :: k) b t h next K)
    obtain ⟨fn, n, defers, deferred, roundOf, cs⟩ := b; rfl
  | .scope x, k, b, t, h, next, K => by
    refine Leads.step (s1 := mkSt b t (.code x :: .inScope x :: k) h next) ?_ (codeCB_ok x (.inScope x :: k) b t h next K)
    obtain ⟨fn, n, defers, deferred, roundOf, cs⟩ := b; rfl
  | .cond c x y, k, b, t, h, next, K => by
    unfold codeCB
    split
    · rename_i a ha
      show Leads F.E K _ ((selC (a.run t) (codeCB F x) (codeCB F y)).run k b t h next K)
      unfold selC
      rw [asBoolC_eq]
      split
      · rename_i z hz
        have hev : evalA F.E.base t c = some (.bool z) := by rw [obOf_ok ha t, hz]
        cases z with
        | true =>
          refine Leads.step (s1 := mkSt b t (.code x :: k) h next) ?_ (codeCB_ok x k b t h next K)
          obtain ⟨fn, n, defers, deferred, roundOf, cs⟩ := b
          simp only [mkSt_mk, stepA, hev]
        | false =>
          refine Leads.step (s1 := mkSt b t (.code y :: k) h next) ?_ (codeCB_ok y k b t h next K)
          obtain ⟨fn, n, defers, deferred, roundOf, cs⟩ := b
          simp only [mkSt_mk, stepA, hev]
      · exact Leads.no
    · exact Leads.no
  | .exit id, k, b, t, h, next, K => by
    show Leads F.E K _ (exitK F.E id k b t h next K)
    unfold exitK
    rw [exitL_eq]
    split
    · rename_i k' hk
      refine Leads.here ?_
      obtain ⟨fn, n, defers, deferred, roundOf, cs⟩ := b
      simp only [mkSt_mk, stepA, hk]
    · exact Leads.slow
  | .ret, k, b, t, h, next, K => retK_ok hF (.inr rfl) (fun _ => rfl) (by obtain ⟨fn, n, defers, deferred, roundOf, cs⟩ := b; rfl)
  | .region id ops d, k, b, t, h, next, K => by
    cases d with
    | false =>
      refine Leads.step (s1 := mkSt b t (.reg ops.toList ops.toList :: k) h next) ?_ (regionCB_ok hF)
      obtain ⟨fn, n, defers, deferred, roundOf, cs⟩ := b; rfl
    | true =>
      unfold codeCB
      simp only
      split
      · rename_i bs es hp
        refine Leads.step (s1 := mkSt b t (.draw ops.toList bs none es [] [] :: k) h next) ?_ (drawDB_ok hF)
        obtain ⟨fn, n, defers, deferred, roundOf, cs⟩ := b
        simp only [mkSt_mk, stepA, hp]
      · exact Leads.no
  | .rangeFunc .., k, b, t, h, next, K => Leads.slow
  | .goto _, k, b, t, h, next, K => Leads.slow
  | .refuse _, k, b, t, h, next, K => Leads.slow
theorem itemK_ok (x : AItem) (k : List AItem) (b : FB) (t : T AV) (h : T Obj) (next : Pos) (K : KT) : Leads F.E K (mkSt b t (x :: k) h next) (itemK F x k b t h next K) := by
  cases x with
  | code c => exact codeCB_ok hF c k b t h next K
  | inBlock id => exact Leads.here (by obtain ⟨fn, n, defers, deferred, roundOf, cs⟩ := b; rfl)
  | inScope body => exact Leads.here (by obtain ⟨fn, n, defers, deferred, roundOf, cs⟩ := b; rfl)
  | inLoop body =>
    refine Leads.step (s1 := mkSt b t (.code body :: .inLoop body :: k) h next) ?_ (codeCB_ok hF body (.inLoop body :: k) b t h next K)
    obtain ⟨fn, n, defers, deferred, roundOf, cs⟩ := b; rfl
  | reg ops rest => exact regionCB_ok hF
  | draw ops bs last todo done als => exact drawDB_ok hF
  | drawIn ops bs e todo done als => exact Leads.no
  | inRange l => exact Leads.no
  | endRange l => exact Leads.slow
  | beginRound => exact Leads.slow

/-- The quick machine does what the plain one does. -/
theorem runF_ok : ∀ (N : Nat) (b : FB) (t : T AV) (todo : List AItem) (h : T Obj) (next : Pos) (o : Out), runF F N b t todo h next = some o → ∃ m s', o = .on s' ∧ runA F.E m (mkSt b t todo h next) = some (.on s')
  | 0, b, t, todo, h, next, o, hr => by
    cases hr
    exact ⟨0, _, rfl, rfl⟩
  | N + 1, b, t, todo, h, next, o, hr => by
    have hl : Leads F.E (runF F N) (mkSt b t todo h next) (runF F (N + 1) b t todo h next) := by
      cases todo with
      | nil => exact retK_ok hF (.inl rfl) (fun _ => rfl) (by obtain ⟨fn, n, defers, deferred, roundOf, cs⟩ := b; rfl)
      | cons x k => exact itemK_ok hF x k b t h next (runF F N)
    obtain ⟨m, b', t', todo', h', next', h1, h2⟩ := hl o hr
    obtain ⟨m', s', h3, h4⟩ := runF_ok N b' t' todo' h' next' o h2
    refine ⟨m + 1 + m', s', h3, ?_⟩
    have add : ∀ (a : Nat) (s1 s2 : St) (c : Nat), runA F.E a s1 = some (.on s2) → runA F.E (a + c) s1 = runA F.E c s2 := by
      intro a
      induction a with
      | zero => intro s1 s2 c hh; cases hh; rw [Nat.zero_add]
      | succ a ih =>
        intro s1 s2 c hh
        rw [show a + 1 + c = (a + c) + 1 by omega]
        simp only [runA] at hh ⊢
        cases h5 : stepA F.E s1 with
        | none => rw [h5] at hh; cases hh
        | some y => cases y with
          | on s3 => rw [h5] at hh; exact ih s3 s2 c hh
          | done v s3 => rw [h5] at hh; cases hh
    rw [add _ _ _ _ h1]
    exact h4
end
end Go.Vm
end
section
namespace Go.Vm

/-! ### a list as a tree -/
theorem evens_get {α : Type} : ∀ (l : List α) (i : Nat), (evens l)[i]? = l[2 * i]?
  | [], i => by simp [evens]
  | [x], 0 => by simp [evens]
  | [x], i + 1 => by simp [evens]
  | x :: y :: l, 0 => by simp [evens]
  | x :: y :: l, i + 1 => by
    have : 2 * (i + 1) = 2 * i + 1 + 1 := by omega
    rw [this]
    simp only [evens, List.getElem?_cons_succ]
    exact evens_get l i
theorem treeOf_get {α : Type} : ∀ (f : Nat) (l : List α) (p : Pos) (x : α), (treeOf f l).get p = some x → l[p.val - 1]? = some x
  | 0, l, p, x, h => by simp [treeOf, T.get] at h
  | f + 1, [], p, x, h => by simp [treeOf, T.get] at h
  | f + 1, y :: l, .one, x, h => by simpa [treeOf, T.get, Pos.val] using h
  | f + 1, y :: l, .b0 q, x, h => by
    have hq := q.val_pos
    have := treeOf_get f (evens l) q x (by simpa [treeOf, T.get] using h)
    rw [evens_get] at this
    have e : (Pos.b0 q).val - 1 = 2 * (q.val - 1) + 1 := by simp only [Pos.val]; omega
    rw [e, List.getElem?_cons_succ]
    exact this
  | f + 1, y :: l, .b1 q, x, h => by
    have hq := q.val_pos
    have := treeOf_get f (evens (l.drop 1)) q x (by simpa [treeOf, T.get] using h)
    rw [evens_get, List.getElem?_drop] at this
    have e : (Pos.b1 q).val - 1 = (1 + 2 * (q.val - 1)) + 1 := by simp only [Pos.val]; omega
    rw [e, List.getElem?_cons_succ]
    exact this
theorem treeOf_at {α : Type} {f : Nat} {l : List α} {i : Nat} {x : α} (h : (treeOf f l).get (nk i) = some x) : l[i]? = some x := by
  have := treeOf_get f l (nk i) x h
  rw [nk_val] at this
  exact this
theorem fe_ok (E : Env) (a b : Nat) : FOK { E, funcs := treeOf a E.P.funcs.toList, types := treeOf b E.P.types.toList } where
  types := fun t i h => by
    have := treeOf_at h
    have h1 : E.P.types[t]? = some i := by rw [← Array.getElem?_toList]; exact this
    have h2 : t < E.P.types.size := (Array.getElem?_eq_some_iff.1 h1).1
    show E.P.toTables.info? t = some i
    unfold Tables.info?
    rw [if_pos h2]
    exact h1
  funcs := fun f fn h => by
    have := treeOf_at h
    show E.P.funcs[f]? = some fn
    rw [← Array.getElem?_toList]
    exact this

/-! ### a stretch of a run -/
noncomputable section
def viewK (keys : List Pos) (r : Option Out) : Option (AFrame × List AFrame × Pos × List (Option Obj)) := match r with
  | some (.on s) => some (s.fr, s.cs, s.next, keys.map fun g => getO s.h g)
  | _ => none
def layH : List Pos → List (Option Obj) → T Obj
  | g :: l, some o :: k => setO o (layH l k) g
  | _ :: l, none :: k => layH l k
  | _, _ => .leaf
/-- so many marks of the quick machine, from a state, whose memory is given by what it holds where -/
def runSt (F : FE) (N : Nat) (fr : AFrame) (cs : List AFrame) (h : T Obj) (next : Pos) : Option Out := match fr with
  | ⟨fn, n, t, todo, defers, mode, deferred, roundOf⟩ => match mode with
    | .run => runF F N ⟨fn, n, defers, deferred, roundOf, cs⟩ t todo h next
    | _ => none
theorem layH_get (h : T Obj) : ∀ (keys : List Pos) (g : Pos) (o : Obj), (layH keys (keys.map fun g => getO h g)).get g = some o → h.get g = some o
  | [], g, o, e => by simp [layH, T.get] at e
  | k :: l, g, o, e => by
    simp only [List.map_cons] at e
    cases hk : getO h k with
    | none =>
      rw [hk] at e
      exact layH_get h l g o e
    | some x =>
      rw [hk] at e
      simp only [layH, setO_eq, T.get_set] at e
      split at e
      · rename_i hg; cases e; rw [← hg, ← getO_eq]; exact hk
      · exact layH_get h l g o e

section
variable {F : FE} (hF : FOK F) {W0 : World} {CS : List Frame} (hE : EnvOK F.E) (hH : HookOK F.E W0) (hmix : F.E.P.follows .mixedOrders = true)
include hF hE hH hmix
theorem stretch {N : Nat} {fr : AFrame} {cs : List AFrame} {h : T Obj} {next : Pos} {keys : List Pos} {fr' : AFrame} {cs' : List AFrame} {next' : Pos} {objs : List (Option Obj)}
    (hv : viewK keys (runSt F N fr cs h next) = some (fr', cs', next', objs)) {m : Machine} (hs : Stands F.E W0 CS ⟨fr, cs, h, next⟩ m) :
    ∃ m', Steps F.E.P m m' ∧ Stands F.E W0 CS ⟨fr', cs', layH keys objs, next'⟩ m' := by
  obtain ⟨fn, n, t, todo, defers, mode, deferred, roundOf⟩ := fr
  unfold runSt at hv
  cases mode with
  | returning => cases hv
  | panicking ch => cases hv
  | run =>
    simp only at hv
    unfold viewK at hv
    split at hv
    · rename_i s hr
      obtain ⟨k, s', e, hk⟩ := runF_ok hF N _ _ _ _ _ _ hr
      cases e
      cases hv
      obtain ⟨m', h1, h2⟩ := run_sound hE hH (draw_ok hE hH hmix CS) k _ s m hs hk
      exact ⟨m', h1, stands_less h2 _ (fun g o => layH_get s.h keys g o)⟩
    · cases hv
omit hF in
theorem plain {k : Nat} {s s' : St} (hr : runA F.E k s = some (.on s')) {m : Machine} (hs : Stands F.E W0 CS s m) : ∃ m', Steps F.E.P m m' ∧ Stands F.E W0 CS s' m' :=
  run_sound hE hH (draw_ok hE hH hmix CS) k s s' m hs hr
end
end
end Go.Vm
end
