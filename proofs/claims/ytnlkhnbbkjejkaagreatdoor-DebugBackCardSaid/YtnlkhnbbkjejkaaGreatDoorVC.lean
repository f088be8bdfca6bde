/- DebugBack returns true for every list, index and number, and changes nothing that lay before. No conditions. Part VC. -/
import Derived.Test.YtnlkhnbbkjejkaaGreatDoorVB
set_option linter.unusedSimpArgs false
set_option linter.unusedVariables false
section
namespace Go.Vm

section
variable {P : Program} {W0 : World} {base : Nat} {σ : Sig} {h : T Obj} {next : Pos} {w : World}

theorem getCells_zero {g : Pos} {v c : Nat} {l : List AV} (hg : getCells h g v c 0 = some l) : l = [] := by
  unfold getCells at hg
  split at hg
  · split at hg
    · simp only [takeN, Option.some.injEq] at hg; exact hg.symm
    · cases hg
  · split at hg
    · split at hg
      · simp only [getRow, Option.some.injEq] at hg; exact hg.symm
      · cases hg
    · cases hg
  · cases hg

theorem bytesRow_sound (S : ByteArray) : RVs σ (bytesRow (bytesOf S)) (S.data.toList.map fun b => Value.int .u8 b.toNat) := by
  have : ∀ l : List UInt8, RVs σ (bytesRow (l.map (·.toNat))) (l.map fun b => Value.int .u8 b.toNat) := by
    intro l
    induction l with
    | nil => exact RVs.nil
    | cons b l ih => exact RVs.cons (by simp only [RV]; rfl) ih
  exact this _

/-- What is appended, or copied. -/
theorem newCells_sound (H : WR W0 base σ h next w) {x : AV} {X : Value} {size n : Nat} {l : List AV} (hx : RV σ x X) (hn : newCells x h size = some (n, l)) :
    (Builtin.lenOf X).run P w = .ok n w ∧ ∃ vals : List Value, RVs σ l vals ∧ vals.length = n * size ∧ ∀ w' : World, w'.heap = w.heap → (Builtin.firstCells size n X).run P w' = .ok vals.toArray w' := by
  unfold newCells at hn
  split at hn
  · cases hn
    simp only [RV] at hx
    subst hx
    exact ⟨rfl, [], RVs.nil, by simp, fun w' _ => rfl⟩
  · rename_i g v c m cap es
    simp only [RV] at hx
    obtain ⟨a, cap', rfl, h1, h2, L, hL, h4, h3⟩ := hx
    split at hn
    · rename_i he
      have hes : es = size := Nat.eq_of_beq_eq_true he
      subst hes
      split at hn
      · rename_i l' hl
        cases hn
        refine ⟨rfl, ?_⟩
        rcases h3 with ⟨rfl, _⟩ | ⟨rfl, _⟩
        · have h0 : Nat.mul 0 es = 0 := Nat.zero_mul es
          rw [h0] at hl
          rw [getCells_zero hl]
          refine ⟨[], RVs.nil, by simp, fun w' _ => ?_⟩
          simp [Builtin.firstCells, loadCells, loadCellsFrom]
        · obtain ⟨vals, g1, g2, g3, _⟩ := getCells_sound H hL h4 hl
          refine ⟨vals, g1, g2, fun w' hw => ?_⟩
          have g3' : ∀ j u, vals[j]? = some u → w'.cell? ((L.addr c).add j) = some u := by
            intro j u hj
            have := g3 j u hj
            simp only [World.cell?] at this ⊢
            rw [hw]; exact this
          exact run_firstCells_some w' es n (L.addr c) n cap' vals g2 g3'
      · cases hn
    · cases hn
  · rename_i s
    simp only [RV] at hx
    obtain ⟨S, rfl, rfl⟩ := hx
    split at hn
    · rename_i he
      have hes : size = 1 := Nat.eq_of_beq_eq_true he
      subst hes
      cases hn
      refine ⟨by rw [slen_encS]; rfl, _, by rw [sdec_encS]; exact bytesRow_sound S, by rw [slen_encS]; simp, fun w' _ => ?_⟩
      rw [slen_encS]
      have hex : S.extract 0 S.size = S := by simp
      show Result.ok ((S.extract 0 S.size).data.map fun b => Value.int .u8 b.toNat) w' = _
      rw [hex, map_list]
    · cases hn
  · cases hn

/-- An append that has room. -/
theorem append_fit {st xt ty elem : TypeId} {ts : List TypeId} {us : List Value} {d : TypeDesc} {i : TypeInfo} (hst : P.underlying st = some (.slice elem)) (hxt : P.underlying xt = some d) (hd : ∀ k, d ≠ .int k)
    (hi : P.info? elem = some i) {X : Value} {n sLen sCap : Nat} {b : Option Addr} {new : Array Value} (hn : (Builtin.lenOf X).run P w = .ok n w) (hroom : sLen + n ≤ sCap) (hnew : (Builtin.firstCells i.size n X).run P w = .ok new w) :
    (Builtin.append_ (st :: xt :: ts).toArray ty (.slice b sLen sCap :: X :: us).toArray).run P w =
      (match b with
        | some a => ((storeCells (a.add (sLen * i.size)) new.toList).run P w).andThen fun _ w' => .ok (.slice b (sLen + n) sCap) w'
        | none => .ok (.slice b (sLen + n) sCap) w) := by
  have hz : (match d with | .int _ => true | _ => false) = false := by cases d <;> first | rfl | exact absurd rfl (hd _)
  have hs : (sizeOf elem).run P w = .ok i.size w := by simp [sizeOf, run_info hi]
  simp only [Builtin.append_, List.getElem?_toArray, List.getElem?_cons_zero, List.getElem?_cons_succ]
  simp only [Sem.run_bind, run_underlying hst, Result.andThen_ok, hs, run_underlying hxt, Sem.run_pure]
  cases d <;> first
    | exact absurd rfl (hd _)
    | (simp only [Bool.false_eq_true, if_false, hn, Result.andThen_ok, hroom, if_true, Bool.not_false, Sem.run_bind, hnew, Sem.run_pure]
       cases b with
       | none => rfl
       | some a => simp only [Sem.run_bind]; rfl)
/-- An append that has none. -/
theorem append_grow {st xt ty elem : TypeId} {ts : List TypeId} {us : List Value} {d : TypeDesc} {i : TypeInfo} (hst : P.underlying st = some (.slice elem)) (hxt : P.underlying xt = some d) (hd : ∀ k, d ≠ .int k)
    (hi : P.info? elem = some i) {Z : Value} (hZ : i.zero = some Z) {X : Value} {n sLen sCap : Nat} {b : Option Addr} {old new : Array Value} (hn : (Builtin.lenOf X).run P w = .ok n w) (hroom : ¬ sLen + n ≤ sCap)
    (h6 : sLen + n + i.bytes ≤ 1000000) (hold : (Builtin.firstCells i.size sLen (.slice b sLen sCap)).run P w.drew = .ok old w.drew) (hnew : (Builtin.firstCells i.size n X).run P w.drew = .ok new w.drew) :
    (Builtin.append_ (st :: xt :: ts).toArray ty (.slice b sLen sCap :: X :: us).toArray).run P w =
      .ok (.slice (some ⟨w.heap.size, 0, none⟩) (sLen + n) (grownCap w (sLen + n) sCap elem)) (w.drew.alloc (.cells (old ++ new ++ Builtin.zeroCells Z.cells (grownCap w (sLen + n) sCap elem - (sLen + n))) elem)) := by
  have hs : (sizeOf elem).run P w = .ok i.size w := by simp [sizeOf, run_info hi]
  have hty : ∀ w', (typeInfo elem).run P w' = .ok i w' := fun w' => run_info hi
  have hzv : (zeroValue elem).run P w.drew = .ok Z w.drew := by simp [zeroValue, run_info hi, hZ]
  have h63 : ¬ ((((sLen + n : Nat)) : Int) > IntKind.i64.max) := by
    have : IntKind.i64.max = 9223372036854775807 := by decide
    rw [this]; omega
  have h48 : ¬ (Builtin.nextslicecap (sLen + n) sCap * i.bytes > 2 ^ 48) := by
    have h1 := nextslicecap_le (need := sLen + n) (old := sCap) (by omega)
    have h2 : Builtin.nextslicecap (sLen + n) sCap * i.bytes ≤ 2000000 * 1000000 := Nat.mul_le_mul (by omega) (by omega)
    have h3 : (2 : Nat) ^ 48 = 281474976710656 := by decide
    omega
  simp only [Builtin.append_, List.getElem?_toArray, List.getElem?_cons_zero, List.getElem?_cons_succ]
  simp only [Sem.run_bind, run_underlying hst, Result.andThen_ok, hs, run_underlying hxt, Sem.run_pure]
  cases d <;> first
    | exact absurd rfl (hd _)
    | (simp only [Bool.false_eq_true, if_false, hn, Result.andThen_ok, hroom, Bool.not_false, Sem.run_bind, Sem.run_ite, hty, h63, false_and, h48, Sem.run_pure, if_true, run_choose, Question.forced, run_askRoom]
       have hw : { w with drawn := w.drawn + 1 } = w.drew := rfl
       simp only [hw, hold, Result.andThen_ok, hnew, hzv, newRow, Sem.run_bind, run_newObj, Sem.run_pure, hty, run_askRoom, pure_bind]
       rfl)
end
end Go.Vm
end
section
namespace Go.Vm

section
variable {P : Program} {W0 : World} {base : Nat} {σ : Sig} {h : T Obj} {next : Pos} {w : World}

/-- What a step that gives a value comes to. -/
def ValR (W0 : World) (base : Nat) (σ : Sig) (next : Pos) (v : AV) (h' : T Obj) (next' : Pos) (r : Result Value) : Prop :=
  ∃ σ' u w', r = .ok u w' ∧ Sub σ σ' ∧ New σ σ' next [] ∧ WR W0 base σ' h' next' w' ∧ RV σ' v u ∧ next.val ≤ next'.val
theorem ValR.same {v : AV} {r : Result Value} {u : Value} (H : WR W0 base σ h next w) (hr : r = .ok u w) (hv : RV σ v u) : ValR W0 base σ next v h next r :=
  ⟨σ, u, w, hr, Sub.refl σ, New.refl σ _ _, H, hv, Nat.le_refl _⟩

theorem put_new {g : Pos} {v : Nat} {L : Loc} (hg : next.val ≤ g.val) : New σ (put σ g v L) next [] := by
  intro q hq hlt _ v'
  rw [put_other]
  · exact hq v'
  · intro e; subst e; omega
/-- A version more of a known group. -/
theorem put_newV {g : Pos} {v v0 : Nat} {L L0 : Loc} (hg : σ g v0 = some L0) : New σ (put σ g v L) next [] := by
  intro q hq hlt _ v'
  rw [put_other]
  · exact hq v'
  · intro e; subst e; rw [hq] at hg; cases hg

/-- A new slice that may be added to. -/
theorem grow_sound (H : WR W0 base σ h next w) {w' : World} (H' : WR W0 base σ h next w') (hw : w'.heap.size = w.heap.size) {elem : TypeId} {es n cap : Nat} {cells : List AV} {C : Array Value}
    (hr : RVs σ cells (C.toList.take (n * es))) (hn : n ≤ cap) (hC : C.size = cap * es) {r : Result Value}
    (hrun : r = .ok (.slice (some ⟨w.heap.size, 0, none⟩) n cap) (w'.alloc (.cells C elem))) :
    ∃ v h' n', grow h next elem es n cells = .val v h' n' ∧ ValR W0 base σ next v h' n' r := by
  refine ⟨_, _, _, rfl, put σ next 0 ⟨w'.heap.size, 0, 0, C.size⟩, _, _, hrun, put_sub _ _ _ _ (H.fresh 0), put_new (Nat.le_refl _), ?_, ?_, by rw [Pos.val_succ]; omega⟩
  · refine H'.alloc H.fresh H.nextp _ (by rw [Pos.val_succ]; omega) (by rw [Pos.val_succ]; omega) _ _ rfl _ ?_ ?_
    · intro k hk
      rw [T.get_set, if_neg (Ne.symm hk)]
    · intro o ho
      rw [T.get_set, if_pos rfl] at ho
      cases ho
      have hm : n * es ≤ C.size := by rw [hC]; exact Nat.mul_le_mul_right _ hn
      exact OR.newArr (RVs.mono (put_sub _ _ _ _ (H.fresh 0)) _ _ hr) hm (fun _ => rfl) (by intros; simp)
  · simp only [RV]
    refine ⟨_, cap, rfl, hn, (fun q hq => by cases hq), _, put_same _ _ _ _, Nat.le_refl _, .inr ⟨by rw [← hw]; rfl, ?_⟩⟩
    show 0 + (0 - 0) + cap * es ≤ C.size
    omega

theorem endOf_old {latest v x : Nat} {ends : List Nat} (hv : v ≤ latest) : endOf (Nat.add latest 1) v (x :: ends) = endOf latest v ends := by
  unfold endOf
  rw [Nat.ble_eq_true_of_le hv, Nat.ble_eq_true_of_le (show v ≤ Nat.add latest 1 from Nat.le_succ_of_le hv)]
  simp only
  have : Nat.sub (Nat.add latest 1) v = Nat.sub latest v + 1 := by show latest + 1 - v = latest - v + 1; omega
  rw [this]; rfl
theorem endOf_le {latest v e : Nat} {ends : List Nat} (he : endOf latest v ends = some e) : v ≤ latest := by
  unfold endOf at he
  cases hb : Nat.ble v latest with
  | true => exact Nat.le_of_ble_eq_true hb
  | false => rw [hb] at he; cases he
theorem endOf_new {latest x : Nat} {ends : List Nat} : endOf (Nat.add latest 1) (Nat.add latest 1) (x :: ends) = some x := by
  unfold endOf
  rw [Nat.ble_eq_true_of_le (Nat.le_refl _)]
  simp only [Nat.sub_eq, Nat.sub_self]
  rfl
/-- An older version sees nothing of what is added. -/
theorem OR.older {b : Option Go.Obj} {v latest frz x c : Nat} {L : Loc} {t : T (AV × Nat)} {ends : List Nat} {elem : TypeId} {new : List AV} (ho : OR σ b v L (.arr t latest ends frz elem)) :
    OR σ b v L (.arr (setRow (Nat.add latest 1) new c t) (Nat.add latest 1) (x :: ends) frz elem) := by
  obtain ⟨e, C, fz, h1, h2, h3, h4, h5, h6⟩ := ho
  have hv := endOf_le h1
  refine ⟨e, C, fz, by rw [endOf_old hv]; exact h1, h2, h3, h4, ?_, h6⟩
  intro d y o hd1 hd2 hd3 hd4
  rw [setRow_at] at hd3
  split at hd3
  · cases hx : new[d - c]? with
    | none => rw [hx] at hd3; cases hd3
    | some y' =>
      rw [hx] at hd3; cases hd3
      exfalso
      have : latest + 1 ≤ v := hd4
      omega
  · exact h5 d y o hd1 hd2 hd3 hd4

/-- A version more, in a new block. -/
theorem WR.versionNew (H : WR W0 base σ h next w) {g : Pos} {v0 v : Nat} {L0 : Loc} (hg : σ g v0 = some L0) (hv : σ g v = none) (hgb : base < g.val) (O : Go.Obj) (L : Loc) (hL : L.blk = w.heap.size) (o : Obj)
    (hold : ∀ v' L', σ g v' = some L' → OR σ (w.heap[L'.blk]?) v' L' o) (hnew : OR σ (some O) v L o) :
    WR W0 base (put σ g v L) (h.set o g) next (w.alloc O) := by
  have hsub := put_sub σ g v L hv
  have inv : ∀ g' v' L', put σ g v L g' v' = some L' → (g' = g ∧ v' = v ∧ L' = L) ∨ σ g' v' = some L' := by
    intro g' v' L' e
    unfold put at e
    split at e
    · rename_i hh; obtain ⟨rfl, rfl⟩ := hh; cases e; exact .inl ⟨rfl, rfl, rfl⟩
    · exact .inr e
  have hkeep : ∀ k, k < w.heap.size → (w.alloc O).heap[k]? = w.heap[k]? := by
    intro k hk
    simp only [World.alloc, Array.getElem?_push]
    rw [if_neg (by omega)]
  refine ⟨H.os, H.tape, H.output, by have := H.size; simp; omega, fun k hk => ?_, H.nextp, ?_, ?_, ?_⟩
  · rw [hkeep k (by have := H.size; omega)]; exact H.old k hk
  · intro g' v' L' e
    rcases inv g' v' L' e with ⟨rfl, rfl, rfl⟩ | e
    · exact ⟨by simp [hL], fun _ => by rw [hL]; exact H.size, (H.loc _ _ _ hg).2.2⟩
    · obtain ⟨h1, h2, h3⟩ := H.loc _ _ _ e
      exact ⟨by simp; omega, h2, h3⟩
  · intro g1 v1 L1 g2 v2 L2 e1 e2 hb
    rcases inv _ _ _ e1 with ⟨rfl, rfl, rfl⟩ | f1 <;> rcases inv _ _ _ e2 with ⟨rfl, rfl, rfl⟩ | f2
    · exact ⟨rfl, rfl⟩
    · have := (H.loc _ _ _ f2).1; omega
    · have := (H.loc _ _ _ f1).1; omega
    · exact H.inj _ _ _ _ _ _ f1 f2 hb
  · intro g' v' L' o' e eo
    rw [T.get_set] at eo
    rcases inv _ _ _ e with ⟨rfl, rfl, rfl⟩ | e
    · rw [if_pos rfl] at eo
      cases eo
      have : (w.alloc O).heap[L'.blk]? = some O := by rw [hL]; exact heap_alloc_new w O
      rw [this]; exact hnew.mono hsub
    · rw [hkeep _ (H.loc _ _ _ e).1]
      by_cases hgg : g = g'
      · subst hgg
        rw [if_pos rfl] at eo
        cases eo
        exact (hold _ _ e).mono hsub
      · rw [if_neg hgg] at eo
        exact (H.obj _ _ _ _ e eo).mono hsub

/-- A version more, in place. -/
theorem WR.versionIn (H : WR W0 base σ h next w) {g : Pos} {v0 v : Nat} {L0 : Loc} (hg : σ g v0 = some L0) (hv : σ g v = none) (hgb : base < g.val) (O : Go.Obj) (L : Loc) (hL : L.blk = L0.blk)
    (hal : L.off + L0.c0 = L0.off + L.c0) (o : Obj)
    (hold : ∀ v' L', σ g v' = some L' → OR σ (if L0.blk = L'.blk then some O else w.heap[L'.blk]?) v' L' o) (hnew : OR σ (some O) v L o) :
    WR W0 base (put σ g v L) (h.set o g) next (setB w L0.blk O) := by
  have hsub := put_sub σ g v L hv
  have inv : ∀ g' v' L', put σ g v L g' v' = some L' → (g' = g ∧ v' = v ∧ L' = L) ∨ σ g' v' = some L' := by
    intro g' v' L' e
    unfold put at e
    split at e
    · rename_i hh; obtain ⟨rfl, rfl⟩ := hh; cases e; exact .inl ⟨rfl, rfl, rfl⟩
    · exact .inr e
  have hT := H.turn hg hgb O o hold
  refine ⟨hT.os, hT.tape, hT.output, hT.size, hT.old, hT.nextp, ?_, ?_, ?_⟩
  · intro g' v' L' e
    rcases inv g' v' L' e with ⟨rfl, rfl, rfl⟩ | e
    · have := hT.loc _ _ _ hg
      rw [hL]; exact this
    · exact hT.loc _ _ _ e
  · intro g1 v1 L1 g2 v2 L2 e1 e2 hb
    rcases inv _ _ _ e1 with ⟨rfl, rfl, rfl⟩ | f1 <;> rcases inv _ _ _ e2 with ⟨rfl, rfl, rfl⟩ | f2
    · exact ⟨rfl, rfl⟩
    · obtain ⟨k1, k2⟩ := H.inj _ _ _ _ _ _ hg f2 (by rw [← hL]; exact hb)
      exact ⟨k1, by omega⟩
    · obtain ⟨k1, k2⟩ := H.inj _ _ _ _ _ _ f1 hg (by rw [← hL]; exact hb)
      exact ⟨k1, by omega⟩
    · exact H.inj _ _ _ _ _ _ f1 f2 hb
  · intro g' v' L' o' e eo
    rcases inv _ _ _ e with ⟨rfl, rfl, rfl⟩ | e
    · rw [T.get_set, if_pos rfl] at eo
      cases eo
      rw [hL, setB_get, if_pos ⟨rfl, (H.loc _ _ _ hg).1⟩]
      exact hnew.mono hsub
    · exact (hT.obj _ _ _ _ e eo).mono hsub
end
end Go.Vm
end
section
namespace Go.Vm

section
variable {P : Program} {W0 : World} {base : Nat} {σ : Sig} {h : T Obj} {next : Pos} {w : World}

theorem getRow_at {t : T (AV × Nat)} {v : Nat} : ∀ (n c : Nat) (l : List AV), getRow t v n c = some l → ∀ d, c ≤ d → d < c + n → ∃ y o, t.at d = some (y, o) ∧ o ≤ v ∧ l[d - c]? = some y
  | 0, c, l, _, d, h1, h2 => by omega
  | n + 1, c, l, hl, d, h1, h2 => by
    simp only [getRow] at hl
    split at hl
    · rename_i y o hat
      split at hl
      · rename_i hov
        split at hl
        · rename_i l' hl'
          cases hl
          by_cases hd : d = c
          · subst hd
            exact ⟨y, o, hat, Nat.le_of_ble_eq_true hov, by simp⟩
          · obtain ⟨y', o', j1, j2, j3⟩ := getRow_at n (c + 1) l' hl' d (by omega) (by omega)
            refine ⟨y', o', j1, j2, ?_⟩
            have : d - c = (d - (c + 1)) + 1 := by omega
            rw [this]; simpa using j3
        · cases hl
      · cases hl
    · cases hl

theorem ver_none (H : WR W0 base σ h next w) {g : Pos} {t : T (AV × Nat)} {latest frz : Nat} {ends : List Nat} {el : TypeId} (hg : h.get g = some (.arr t latest ends frz el)) : σ g (latest + 1) = none := by
  cases hq : σ g (latest + 1) with
  | none => rfl
  | some Lq =>
    obtain ⟨e', _, _, q1, _⟩ := H.obj _ _ _ _ hq hg
    have := endOf_le q1
    omega

/-- What is said of the version that sees what is added: its cells from c on are the old row, then the new one. -/
theorem OR.newVersion {t : T (AV × Nat)} {latest v c p q frz : Nat} {ends : List Nat} {el : TypeId} {row new : List AV} {ov vals : List Value} (L : Loc) (hLc : L.c0 = c) {C : Array Value} {fz : Nat × Nat}
    (hrow : getRow t v p c = some row) (hv : v ≤ latest) (ho : RVs σ row ov) (hn : RVs σ new vals) (hp : ov.length = p) (hq : vals.length = q)
    (hC : ∀ j u, (ov ++ vals)[j]? = some u → C[L.off + j]? = some u) (hsz : C.size = L.lim) (hlim : L.off + (p + q) ≤ L.lim) (hz : frz = 0 → fz = (0, 0))
    (hf : ∀ d, frz ≤ d → L.c0 ≤ d → L.off + (d - L.c0) < L.lim → fz.2 ≤ L.off + (d - L.c0)) :
    OR σ (some (.cells C el fz)) (latest + 1) L (.arr (setRow (latest + 1) new (c + p) t) (latest + 1) ((c + (p + q)) :: ends) frz el) := by
  refine ⟨c + (p + q), C, fz, endOf_new, rfl, hsz, by rw [hLc]; omega, ?_, hz, hf⟩
  intro d x o h1 h2 h3 h4
  rw [hLc] at h1 ⊢
  rw [setRow_at] at h3
  have hnl := RVs.length hn
  by_cases hin : c + p ≤ d ∧ d < c + p + new.length
  · rw [if_pos hin] at h3
    cases hx : new[d - (c + p)]? with
    | none => rw [hx] at h3; cases h3
    | some x' =>
      rw [hx] at h3; cases h3
      obtain ⟨u, hu, hru⟩ := hn.get _ _ hx
      refine ⟨u, hC (d - c) u ?_, hru⟩
      rw [List.getElem?_append_right (by omega), hp]
      rw [← hu]; congr 1; omega
  · rw [if_neg hin] at h3
    obtain ⟨y, o', j1, j2, j3⟩ := getRow_at p c row hrow d h1 (by omega)
    rw [j1] at h3; cases h3
    obtain ⟨u, hu, hru⟩ := ho.get _ _ j3
    refine ⟨u, hC (d - c) u ?_, hru⟩
    rw [List.getElem?_append_left (by omega)]
    exact hu

/-- An append to a slice whose room is not known, where it has room. -/
theorem app_in (P : Program) (H : WR W0 base σ h next w) {g : Pos} {v : Nat} {L : Loc} (hL : σ g v = some L) (hgb : base < g.val) {t : T (AV × Nat)} {latest frz : Nat} {ends : List Nat} {el : TypeId}
    (hg : h.get g = some (.arr t latest ends frz el)) {c p q e x : Nat} (hxe : x = c + (p + q)) {row new : List AV} {vals : List Value} (k3 : L.c0 ≤ c) (he : endOf latest v ends = some e) (hce : c + p ≤ e) (hfz : frz ≤ c + p)
    (hrow : getRow t v p c = some row) (hv1 : RVs σ new vals) (hq : vals.length = q) (hflat : flatL new = true) (hroom : L.off + (c - L.c0) + p + q ≤ L.lim) :
    ∃ w', (storeCells (L.addr (c + p)) vals 0).run P w = .ok () w' ∧
      WR W0 base (put σ g (latest + 1) ⟨L.blk, L.off + (c - L.c0), c, L.lim⟩) (h.set (.arr (setRow (latest + 1) new (c + p) t) (latest + 1) (x :: ends) frz el) g) next w' := by
  subst hxe
  have hnone := ver_none H hg
  obtain ⟨e0, C, fz, q1, q2, q3, q4, q5, q6, q7⟩ := H.obj _ _ _ _ hL hg
  have hee : e0 = e := by rw [he] at q1; cases q1; rfl
  subst hee
  have hvl := endOf_le q1
  have hnl := RVs.length hv1
  have hoff : L.off + (c + p - L.c0) = L.off + (c - L.c0) + p := by omega
  obtain ⟨C', r1, r2, r3⟩ := run_storeCells' P L.blk (L.off + (c + p - L.c0)) el fz vals 0 C w q2 (by omega) (RVs.one hv1 hflat) (by
    intro d hd1 hd2
    have := q7 (L.c0 + (d - L.off)) (by omega) (by omega) (by omega)
    have h8 : L.off + (L.c0 + (d - L.off) - L.c0) = d := by omega
    rw [h8] at this; omega)
  obtain ⟨ov, o1, o2, o3⟩ := getRow_vals q5 p c row k3 hce hrow
  refine ⟨_, r1, H.versionIn hL hnone hgb (.cells C' el fz) ⟨L.blk, L.off + (c - L.c0), c, L.lim⟩ rfl (by show L.off + (c - L.c0) + L.c0 = L.off + c; omega) _ ?_ ?_⟩
  · intro v' L' hL'
    have ho' := H.obj _ _ _ _ hL' hg
    by_cases hbb : L.blk = L'.blk
    · rw [if_pos hbb]
      have hal := (H.inj _ _ _ _ _ _ hL hL' hbb).2
      obtain ⟨e', C1, fz1, p1, p2, p3, p4, p5, p6, p7⟩ := ho'
      rw [← hbb, q2] at p2; cases p2
      have hv' := endOf_le p1
      refine ⟨e', C', fz, (by rw [show latest + 1 = Nat.add latest 1 from rfl, endOf_old hv']; exact p1), rfl, by rw [r2, p3], p4, ?_, p6, p7⟩
      intro d y o hd1 hd2 hd3 hd4
      rw [setRow_at] at hd3
      by_cases hin : c + p ≤ d ∧ d < c + p + new.length
      · rw [if_pos hin] at hd3
        cases hx : new[d - (c + p)]? with
        | none => rw [hx] at hd3; cases hd3
        | some y' => rw [hx] at hd3; cases hd3; omega
      · rw [if_neg hin] at hd3
        obtain ⟨u, hu, hr⟩ := p5 d y o hd1 hd2 hd3 hd4
        refine ⟨u, ?_, hr⟩
        rw [r3, if_neg (by omega)]; exact hu
    · rw [if_neg hbb]
      exact OR.older ho'
  · refine OR.newVersion _ rfl hrow hvl o1 hv1 o2 hq ?_ (by rw [r2, q3]) (by show L.off + (c - L.c0) + (p + q) ≤ L.lim; omega) q6 ?_
    · intro j u hj
      show C'[L.off + (c - L.c0) + j]? = some u
      rw [r3]
      by_cases hjp : j < p
      · rw [List.getElem?_append_left (by omega)] at hj
        rw [if_neg (by omega)]
        exact o3 j u hj
      · rw [List.getElem?_append_right (by omega), o2] at hj
        have hlt : j - p < vals.length := (List.getElem?_eq_some_iff.1 hj).1
        rw [if_pos (by omega)]
        rw [← hj]; congr 1; omega
    · intro d hd1 hd2 hd3
      have hd2' : c ≤ d := hd2
      have hd3' : L.off + (c - L.c0) + (d - c) < L.lim := hd3
      have := q7 d hd1 (by omega) (by omega)
      have h8 : L.off + (d - L.c0) = L.off + (c - L.c0) + (d - c) := by omega
      rw [h8] at this; exact this

/-- … and where it has none. -/
theorem app_new (H : WR W0 base σ h next w) {g : Pos} {v : Nat} {L : Loc} (hL : σ g v = some L) (hgb : base < g.val) {t : T (AV × Nat)} {latest frz : Nat} {ends : List Nat} {el : TypeId}
    (hg : h.get g = some (.arr t latest ends frz el)) {c p q e x : Nat} (hxe : x = c + (p + q)) {row new : List AV} {ov vals : List Value} (he : endOf latest v ends = some e)
    (hrow : getRow t v p c = some row) (ho : RVs σ row ov) (hp : ov.length = p) (hv1 : RVs σ new vals) (hq : vals.length = q) {C : Array Value} (hC : C.toList.take (p + q) = ov ++ vals) (hsz : p + q ≤ C.size) :
    WR W0 base (put σ g (latest + 1) ⟨w.heap.size, 0, c, C.size⟩) (h.set (.arr (setRow (latest + 1) new (c + p) t) (latest + 1) (x :: ends) frz el) g) next (w.alloc (.cells C el)) := by
  subst hxe
  refine H.versionNew hL (ver_none H hg) hgb _ _ rfl _ (fun v' L' hL' => OR.older (H.obj _ _ _ _ hL' hg)) ?_
  refine OR.newVersion _ rfl hrow (endOf_le he) ho hv1 hp hq ?_ rfl (by show 0 + (p + q) ≤ C.size; omega) (fun _ => rfl) (by intros; simp)
  intro j u hj
  show C[0 + j]? = some u
  rw [← hC, List.getElem?_take] at hj
  split at hj
  · rw [Nat.zero_add]; simpa using hj
  · cases hj
end
end Go.Vm
end
section
namespace Go.Vm

section
variable {P : Program} {W0 : World} {base : Nat} {σ : Sig} {h : T Obj} {next : Pos} {w : World}

theorem zeroA_inv {t : TypeId} {z : AV} {i : TypeInfo} (hi : P.info? t = some i) (hz : zeroA P t = some z) : ∃ Z, i.zero = some Z ∧ Z.cells.size = len z.cells := by
  unfold zeroA at hz
  rw [hi] at hz
  simp only at hz
  cases e : i.zero with
  | none => rw [e] at hz; cases hz
  | some Z =>
    rw [e] at hz
    exact ⟨Z, rfl, (absV_sound (fun _ _ => none) _ _ _ hz).cells_size⟩

theorem old_false {g : Pos} (h : isOld base g = false) : base < g.val := by
  rcases Nat.lt_or_ge base g.val with hlt | hge
  · exact hlt
  · have := Nat.ble_eq_true_of_le hge
    unfold isOld at h; rw [this] at h; cases h

theorem grown_take {es a n k : Nat} {old new : List Value} {Z : Array Value} (ho : old.length = a * es) (hn : new.length = n * es) (hz : Z.size = es) :
    ((old.toArray ++ new.toArray ++ Builtin.zeroCells Z k).toList.take ((a + n) * es) = old ++ new) ∧ (old.toArray ++ new.toArray ++ Builtin.zeroCells Z k).size = (a + n + k) * es := by
  constructor
  · simp only [Array.toList_append, List.append_assoc]
    rw [← List.append_assoc]
    have : (a + n) * es = (old ++ new).length := by rw [List.length_append, ho, hn, Nat.add_mul]
    rw [this]
    exact List.take_left
  · simp only [Array.size_append, List.size_toArray, size_zeroCells, ho, hn, hz]
    rw [Nat.add_mul, Nat.add_mul]

theorem appendA_sound (H : WR W0 base σ h next w) {st xt ty : TypeId} {ts : List TypeId} {us : List Value} {s x : AV} {S X : Value} {res : Res} (hs : RV σ s S) (hx : RV σ x X)
    (ha : appendA P base h next st xt s x = some res) :
    ∃ v h' n', res = .val v h' n' ∧ ValR W0 base σ next v h' n' ((Builtin.append_ (st :: xt :: ts).toArray ty (S :: X :: us).toArray).run P w) := by
  unfold appendA at ha
  split at ha
  · cases ha
  · cases ha
  · rename_i d hd hxt
    have hnd : ∀ k, d ≠ .int k := fun k e => hd k e
    split at ha
    · rename_i elem hst
      split at ha
      · rename_i i hi
        split at ha
        · rename_i n new hnew
          have hnew' : ∃ z, zeroA P elem = some z ∧ len z.cells = i.size ∧ newCells x h i.size = some (n, new) := by
            split at hnew
            · rename_i z hz
              split at hnew
              · rename_i hb
                exact ⟨z, hz, Nat.eq_of_beq_eq_true hb, hnew⟩
              · cases hnew
            · cases hnew
          obtain ⟨z, hz, hzs, hnc⟩ := hnew'
          obtain ⟨Z, hZ, hZs⟩ := zeroA_inv hi hz
          obtain ⟨hlen, vals, hv1, hv2, hv3⟩ := newCells_sound (P := P) H hx hnc
          split at ha
          · -- to a nil slice
            simp only [RV] at hs
            subst hs
            split at ha
            · cases ha
            · rename_i hbig
              have hb : n + i.bytes ≤ 1000000 := by
                unfold tooMany at hbig
                rw [blt_eq] at hbig
                have : ¬ 1000000 < n + i.bytes := by simpa using hbig
                omega
              split at ha
              · cases ha
                have := append_fit (ts := ts) (us := us) (ty := ty) (sLen := 0) (sCap := 0) (b := none) hst hxt hnd hi hlen (Nat.le_refl _) (hv3 w rfl)
                exact ⟨_, _, _, rfl, ValR.same H this (by simp only [RV])⟩
              · rename_i m
                cases ha
                have hold : (Builtin.firstCells i.size 0 (.slice none 0 0)).run P w.drew = .ok #[] w.drew := rfl
                have hrun := append_grow (ts := ts) (us := us) (ty := ty) (sLen := 0) (sCap := 0) (b := none) hst hxt hnd hi hZ hlen (by omega) (by omega) hold (hv3 w.drew rfl)
                have hge := grownCap_ge w (m + 1) 0 elem
                obtain ⟨t1, t2⟩ := grown_take (es := i.size) (a := 0) (n := m + 1) (k := grownCap w (m + 1) 0 elem - (m + 1)) (old := []) (new := vals) (Z := Z.cells) (by simp) hv2 (by rw [hZs, hzs])
                simp only [Nat.zero_add] at hrun t1 t2
                refine grow_sound H H.drew rfl (cap := grownCap w (m + 1) 0 elem) (C := #[] ++ vals.toArray ++ Builtin.zeroCells Z.cells (grownCap w (m + 1) 0 elem - (m + 1))) ?_ hge ?_ hrun
                · rw [show (#[] : Array Value) = ([] : List Value).toArray from rfl, t1]; exact hv1
                · rw [show (#[] : Array Value) = ([] : List Value).toArray from rfl, t2]; congr 1; omega
          · -- to a slice
            rename_i g v c m cap es
            have hs0 := hs
            simp only [RV] at hs
            obtain ⟨a, cap', rfl, k1, k2, L, hL, k3, k4⟩ := hs
            split at ha
            · cases ha
            · rename_i hbig
              have hb : m + n + i.bytes ≤ 1000000 := by
                unfold tooMany at hbig
                rw [blt_eq] at hbig
                have : ¬ 1000000 < m + n + i.bytes := by simpa using hbig
                omega
              split at ha
              · cases ha
              · rename_i hes
                have hes' : es = i.size := Nat.eq_of_beq_eq_true hes
                subst hes'
                -- the cells that it has
                have holdc : ∀ old, getCells h g v c (Nat.mul m i.size) = some old → ∃ ov : List Value, RVs σ old ov ∧ ov.length = m * i.size ∧
                    (Builtin.firstCells i.size m (.slice (some a) m cap')).run P w.drew = .ok ov.toArray w.drew := by
                  intro old ho
                  obtain ⟨ov, o1, o2, o3, _⟩ := getCells_sound H hL k3 ho
                  rcases k4 with ⟨h5, h6⟩ | ⟨h5, h6⟩
                  · subst h5
                    have h0 : Nat.mul 0 i.size = 0 := Nat.zero_mul _
                    rw [h0] at ho
                    rw [getCells_zero ho]
                    refine ⟨[], RVs.nil, by simp, ?_⟩
                    simp [Builtin.firstCells, loadCells, loadCellsFrom]
                  · subst h5
                    exact ⟨ov, o1, o2, run_firstCells_some w.drew i.size m (L.addr c) m cap' ov o2 (by intro j u hj; exact o3 j u hj)⟩
                have growCase : ¬ m + n ≤ cap' → ∀ old, getCells h g v c (Nat.mul m i.size) = some old → ∃ ov : List Value, RVs σ old ov ∧ ov.length = m * i.size ∧
                    (Builtin.append_ (st :: xt :: ts).toArray ty (.slice (some a) m cap' :: X :: us).toArray).run P w = .ok (.slice (some ⟨w.heap.size, 0, none⟩) (m + n) (grownCap w (m + n) cap' elem))
                      (w.drew.alloc (.cells (ov.toArray ++ vals.toArray ++ Builtin.zeroCells Z.cells (grownCap w (m + n) cap' elem - (m + n))) elem)) := by
                  intro hno old ho
                  obtain ⟨ov, o1, o2, o3⟩ := holdc old ho
                  exact ⟨ov, o1, o2, append_grow (ts := ts) (us := us) (ty := ty) hst hxt hnd hi hZ hlen hno hb o3 (hv3 w.drew rfl)⟩
                split at ha
                · -- nothing is added
                  cases ha
                  have hv0 : vals = [] := List.eq_nil_of_length_eq_zero (by rw [hv2]; omega)
                  have := append_fit (ts := ts) (us := us) (ty := ty) (b := some a) (sLen := m) (sCap := cap') hst hxt hnd hi hlen (by omega) (hv3 w rfl)
                  refine ⟨_, _, _, rfl, ValR.same H (u := .slice (some a) m cap') ?_ hs0⟩
                  rw [this, hv0]
                  rfl
                · rename_i n
                  split at ha
                  · -- its room is known
                    rename_i k
                    have hk := k2 k rfl
                    subst hk
                    split at ha
                    · rename_i hfit
                      have hfit' : m + (n + 1) ≤ cap' := Nat.le_of_ble_eq_true hfit
                      split at ha
                      · rename_i h' hset
                        cases ha
                        rcases k4 with ⟨h5, h6⟩ | ⟨rfl, h6⟩
                        · omega
                        · obtain ⟨w', r1, r2⟩ := setCells_sound P H hL (c := Nat.add c (Nat.mul m i.size)) (show L.c0 ≤ c + m * i.size by omega) hv1 hset
                          have := append_fit (ts := ts) (us := us) (ty := ty) (b := some (L.addr c)) (sLen := m) (sCap := cap') hst hxt hnd hi hlen hfit' (hv3 w rfl)
                          refine ⟨_, _, _, rfl, σ, .slice (some (L.addr c)) (m + (n + 1)) cap', w', ?_, Sub.refl σ, New.refl σ _ _, r2, ?_, Nat.le_refl _⟩
                          · rw [this]
                            simp only
                            rw [Loc.addr_plus L c _ k3]
                            have r1' : (storeCells (L.addr (c + m * i.size)) vals 0).run P w = .ok () w' := r1
                            rw [r1']; rfl
                          · simp only [RV]
                            exact ⟨_, cap', rfl, hfit', (fun q hq => by cases hq; rfl), L, hL, k3, .inr ⟨rfl, h6⟩⟩
                      · cases ha
                    · rename_i hfit
                      have hno : ¬ m + (n + 1) ≤ cap' := fun hle => by
                        have := Nat.ble_eq_true_of_le (show Nat.add m (n + 1) ≤ cap' from hle)
                        rw [this] at hfit; cases hfit
                      split at ha
                      · rename_i old ho
                        cases ha
                        obtain ⟨ov, o1, o2, o3⟩ := growCase hno old ho
                        have hge := grownCap_ge w (m + (n + 1)) cap' elem
                        obtain ⟨t1, t2⟩ := grown_take (es := i.size) (a := m) (n := n + 1) (k := grownCap w (m + (n + 1)) cap' elem - (m + (n + 1))) (old := ov) (new := vals) (Z := Z.cells) o2 hv2 (by rw [hZs, hzs])
                        refine grow_sound H H.drew rfl (cap := grownCap w (m + (n + 1)) cap' elem) (n := m + (n + 1)) (cells := old ++ new) ?_ hge ?_ o3
                        · rw [t1]; exact o1.append hv1
                        · rw [t2]; congr 1; omega
                      · cases ha
                  · -- its room is not known
                    split at ha
                    · cases ha
                    · rename_i hold
                      have hgb := old_false hold
                      split at ha
                      · rename_i t latest ends frz el hg
                        split at ha
                        · cases ha
                        · rename_i hel
                          have hel' : el = elem := Nat.eq_of_beq_eq_true hel
                          subst hel'
                          split at ha
                          · rename_i e he
                            split at ha
                            · rename_i hce
                              have hce' : c + m * i.size ≤ e := Nat.le_of_ble_eq_true hce
                              split at ha
                              · rename_i hfz
                                have hfz' : frz ≤ c + m * i.size := Nat.le_of_ble_eq_true hfz
                                split at ha
                                · rename_i row hrow
                                  split at ha
                                  · cases ha
                                  · rename_i hflat
                                    cases ha
                                    have hq : vals.length = (n + 1) * i.size := hv2
                                    have hxe : Nat.add c (Nat.mul (Nat.add m (n + 1)) i.size) = c + (m * i.size + (n + 1) * i.size) := by
                                      show c + (m + (n + 1)) * i.size = _
                                      rw [Nat.add_mul]
                                    have hcap : m + (n + 1) ≤ cap' → m * i.size + (n + 1) * i.size ≤ cap' * i.size := fun hf => by
                                      rw [← Nat.add_mul]; exact Nat.mul_le_mul_right _ hf
                                    by_cases hfit : m + (n + 1) ≤ cap'
                                    · -- in place
                                      rcases k4 with ⟨h5, h6⟩ | ⟨rfl, h6⟩
                                      · omega
                                      · have hc2 := hcap hfit
                                        obtain ⟨w', r1, r2⟩ := app_in P H hL hgb hg (c := c) (p := m * i.size) (q := (n + 1) * i.size) hxe k3 he hce' hfz' hrow hv1 hq hflat (by omega)
                                        have hrun := append_fit (ts := ts) (us := us) (ty := ty) (b := some (L.addr c)) (sLen := m) (sCap := cap') hst hxt hnd hi hlen hfit (hv3 w rfl)
                                        refine ⟨_, _, _, rfl, _, .slice (some (L.addr c)) (m + (n + 1)) cap', w', ?_, put_sub _ _ _ _ (ver_none H hg), put_newV hL, r2, ?_, Nat.le_refl _⟩
                                        · rw [hrun]
                                          simp only
                                          rw [Loc.addr_plus L c _ k3, r1]; rfl
                                        · simp only [RV]
                                          refine ⟨_, cap', rfl, hfit, (fun q hq => by cases hq), _, put_same _ _ _ _, Nat.le_refl _, .inr ⟨?_, ?_⟩⟩
                                          · simp [Loc.addr]
                                          · show L.off + (c - L.c0) + (c - c) + cap' * i.size ≤ L.lim
                                            omega
                                    · -- in a new row
                                      have ho : getCells h g v c (Nat.mul m i.size) = some row := by
                                        unfold getCells
                                        rw [hg]
                                        simp only [he]
                                        rw [hce]
                                        exact hrow
                                      obtain ⟨ov, o1, o2, o3⟩ := growCase hfit row ho
                                      have hge := grownCap_ge w (m + (n + 1)) cap' el
                                      obtain ⟨t1, t2⟩ := grown_take (es := i.size) (a := m) (n := n + 1) (k := grownCap w (m + (n + 1)) cap' el - (m + (n + 1))) (old := ov) (new := vals) (Z := Z.cells) o2 hq (by rw [hZs, hzs])
                                      rw [Nat.add_mul] at t1
                                      have hsz : (ov.toArray ++ vals.toArray ++ Builtin.zeroCells Z.cells (grownCap w (m + (n + 1)) cap' el - (m + (n + 1)))).size = grownCap w (m + (n + 1)) cap' el * i.size := by
                                        rw [t2]; congr 1; omega
                                      have hle : m * i.size + (n + 1) * i.size ≤ grownCap w (m + (n + 1)) cap' el * i.size := by
                                        rw [← Nat.add_mul]; exact Nat.mul_le_mul_right _ hge
                                      have hW := app_new H.drew hL hgb hg (c := c) (p := m * i.size) (q := (n + 1) * i.size) hxe he hrow o1 o2 hv1 hq t1 (by rw [hsz]; exact hle)
                                      refine ⟨_, _, _, rfl, _, _, _, o3, put_sub _ _ _ _ (ver_none H hg), put_newV hL, hW, ?_, Nat.le_refl _⟩
                                      simp only [RV]
                                      refine ⟨_, _, rfl, hge, (fun q hq => by cases hq), _, put_same _ _ _ _, Nat.le_refl _, .inr ⟨?_, ?_⟩⟩
                                      · simp only [Loc.addr, Nat.sub_self, Nat.add_zero]; rfl
                                      · show 0 + (c - c) + grownCap w (m + (n + 1)) cap' el * i.size ≤ _
                                        rw [hsz]
                                        show 0 + (c - c) + grownCap w (m + (n + 1)) cap' el * i.size ≤ grownCap w (m + (n + 1)) cap' el * i.size
                                        omega
                                · cases ha
                              · cases ha
                            · cases ha
                          · cases ha
                      · cases ha
          · cases ha
        · cases ha
      · cases ha
    · cases ha
end
end Go.Vm
end
section
namespace Go.Vm

section
variable {P : Program} {W0 : World} {base : Nat} {σ : Sig} {h : T Obj} {next : Pos} {w : World}

theorem storeA_sound (H : WR W0 base σ h next w) {t : TypeId} {a x : AV} {A X : Value} (ha : RV σ a A) (hx : RV σ x X) {h' : T Obj} (hs : storeA P base h t a x = some h') :
    ∃ w', (Instr.storeAt t A X).run P w = .ok () w' ∧ WR W0 base σ h' next w' := by
  unfold storeA at hs
  split at hs
  · rename_i g v c
    simp only [RV] at ha
    obtain ⟨L, hL, hc, rfl⟩ := ha
    split at hs
    · rename_i n hn
      split at hs
      · rename_i hb
        have hsz : X.cells.size = n := by rw [hx.cells_size]; exact Nat.eq_of_beq_eq_true hb
        obtain ⟨w', r1, r2⟩ := setCells_sound P H hL hc hx.cells hs
        refine ⟨w', ?_, r2⟩
        simp [Instr.storeAt, Instr.sureAddr, storeVar, run_szA hn, hsz, r1]
      · cases hs
    · cases hs
  · cases hs

theorem freeze_alloc (w : World) (C : Array Value) (e : TypeId) : (w.alloc (.cells C e)).freeze ⟨w.heap.size, C.size, none⟩ 1 = w.alloc (.cells C e (C.size, C.size + 1)) := by
  simp only [World.freeze, World.alloc]
  rw [if_neg (by decide)]
  congr 1
  apply Array.ext_getElem?
  intro i
  rw [Array.getElem?_modify, Array.getElem?_push, Array.getElem?_push]
  by_cases hi : w.heap.size = i
  · subst hi; simp
  · simp [hi, Ne.symm hi]

theorem seenAt_row {b off : Nat} {C : Array Value} {e : TypeId} {fz : Nat × Nat} (hb : w.heap[b]? = some (.cells C e fz)) : (Conv.seenAt ⟨b, off, none⟩).run P w = .ok ⟨b, off, none⟩ w := by
  have : w.shape? b = some (e, C.size) := by simp [World.shape?, hb]
  simp [Conv.seenAt, viewAt, this]

theorem liesIn_sound (H : WR W0 base σ h next w) {g : Pos} {v c : Nat} {u : TypeId} {L : Loc} (hL : σ g v = some L) (hl : liesIn P h g v c u = true) :
    ∃ C e, w.heap[L.blk]? = some (.cells C e (0, 0)) ∧ L.addr c = ⟨L.blk, c, none⟩ ∧ c < C.size ∧ liesAt P P.depth e (C.size / P.cellsOf e) c u 1 = true := by
  unfold liesIn at hl
  split at hl
  · rename_i cs e hg
    obtain ⟨rfl, h2, h3, C, h4, h5, h6⟩ := H.obj _ _ _ _ hL hg
    simp only [Bool.and_eq_true] at hl
    have hlen : len cs = C.size := by rw [len_eq]; simpa using RVs.length h6
    rw [hlen, blt_eq] at hl
    exact ⟨C, e, h4, by simp [Loc.addr, h2, h3], by simpa using hl.1, hl.2⟩
  · cases hl

theorem convA_sound (H : WR W0 base σ h next w) {src dst : TypeId} {x : AV} {X : Value} (hx : RV σ x X) {res : Res} (hc : convA P h next src dst x = some res) :
    ∃ v h' n', res = .val v h' n' ∧ ValR W0 base σ next v h' n' ((convert src dst X).run P w) := by
  unfold convA at hc
  split at hc
  · rename_i k0 k j n hs hd
    cases hc
    simp only [RV] at hx
    subst hx
    exact ⟨_, _, _, rfl, ValR.same H (u := .int k (k.wrap n)) (by simp [convert, run_underlying hs, run_underlying hd, Conv.intToInt]) (by simp only [RV, wrapA_eq])⟩
  · rename_i e s hs hd
    simp only [RV] at hx
    obtain ⟨S, rfl, rfl⟩ := hx
    split at hc
    · rename_i hu8
      split at hc
      · rename_i hz
        split at hc
        · cases hc
        rename_i hbig
        cases hc
        have hsmall : S.size ≤ 1000000 := by
          rw [slen_encS, blt_eq] at hbig
          have : ¬ 1000000 < S.size := by simpa using hbig
          omega
        have hmax : grownCap w S.size 0 e < 9223372036854775808 := by
          have hlt := Nat.mod_lt (w.tape w.drawn (.appendCap S.size 0 e)) (show 0 < 2 ^ 63 - S.size by omega)
          simp only [grownCap, Question.cut]
          omega
        have hu : P.underlying e = some (.int .u8) := by
          unfold isU8 at hu8
          split at hu8
          · rename_i h; exact h
          · cases hu8
        have hge := grownCap_ge w S.size 0 e
        have hsz : (S.data.map (fun b : UInt8 => Value.int .u8 b.toNat) ++ Array.replicate (grownCap w S.size 0 e - S.size) (Value.int .u8 0)).size = grownCap w S.size 0 e := by
          simp only [Array.size_append, Array.size_map, Array.size_replicate]
          have : S.data.size = S.size := rfl
          omega
        generalize hC : S.data.map (fun b => Value.int .u8 b.toNat) ++ Array.replicate (grownCap w S.size 0 e - S.size) (.int .u8 0) = C at hsz
        have hrun : (convert src dst (.string S)).run P w = .ok (.slice (some ⟨w.heap.size, 0, none⟩) S.size (grownCap w S.size 0 e)) (w.drew.alloc (.cells C e (C.size, C.size + 1))) := by
          have hfr := freeze_alloc w.drew C e
          have hsh : (w.drew.alloc (.cells C e)).shape? w.heap.size = some (e, C.size) := by
            have : (w.drew.alloc (.cells C e)).heap[w.heap.size]? = some (.cells C e) := heap_alloc_new w.drew _
            unfold World.shape?; rw [this]
          have hraw : ({ w with drawn := w.drawn + 1, heap := w.heap.push (.cells C e) } : World) = w.drew.alloc (.cells C e) := rfl
          have hgc : (Question.appendCap S.size 0 e).cut (w.tape w.drawn (.appendCap S.size 0 e)) = grownCap w S.size 0 e := rfl
          unfold convert
          rw [Sem.run_bind, run_underlying hs, Result.andThen_ok, Sem.run_bind, run_underlying hd, Result.andThen_ok]
          simp only
          rw [Sem.run_bind, run_underlying hu, Result.andThen_ok]
          simp only [Conv.stringToBytes, Sem.run_bind, run_choose, Question.forced, Bool.false_eq_true, if_false, Result.andThen_ok, hgc, hC, newRow, run_newObj, Sem.run_pure, markStringish, run_shape]
          rw [hraw, hsh]
          simp only [run_freeze, Result.andThen_ok]
          have hw2 : w.drew.heap.size = w.heap.size := rfl
          rw [hw2] at hfr
          rw [hfr]
        refine ⟨_, _, _, rfl, put σ next 0 ⟨w.heap.size, 0, 0, C.size⟩, _, _, hrun, put_sub _ _ _ _ (H.fresh 0), put_new (Nat.le_refl _), ?_, ?_, by rw [Pos.val_succ]; omega⟩
        · refine H.drew.alloc H.fresh H.nextp _ (by rw [Pos.val_succ]; omega) (by rw [Pos.val_succ]; omega) _ _ rfl _ ?_ ?_
          · intro k hk; rw [T.get_set, if_neg (Ne.symm hk)]
          · intro o ho
            rw [T.get_set, if_pos rfl] at ho
            cases ho
            rw [slen_encS, sdec_encS]
            refine OR.newArr ?_ (by rw [hsz]; exact hge) (fun h0 => by omega) (fun d h1 h2 => by omega)
            have htake : C.toList.take S.size = S.data.toList.map fun b => Value.int .u8 b.toNat := by
              rw [← hC, Array.toList_append, Array.toList_map]
              have hl : S.size = (S.data.toList.map fun b => Value.int .u8 b.toNat).length := by simp
              rw [hl]; exact List.take_left
            rw [htake]
            exact RVs.mono (put_sub _ _ _ _ (H.fresh 0)) _ _ (bytesRow_sound S)
        · simp only [RV]
          rw [slen_encS]
          exact ⟨_, _, rfl, hge, (fun q hq => by cases hq), _, put_same _ _ _ _, Nat.le_refl _, .inr ⟨rfl, by show 0 + (0 - 0) + grownCap w S.size 0 e * 1 ≤ C.size; omega⟩⟩
      · cases hc
    · cases hc
  · rename_i t g v c hs hd
    have hx0 := hx
    simp only [RV] at hx
    obtain ⟨L, hL, h1, rfl⟩ := hx
    split at hc
    · rename_i n hz
      split at hc
      · rename_i hl
        cases hc
        obtain ⟨C, e, k1, k2, k3, k4⟩ := liesIn_sound H hL hl
        refine ⟨_, _, _, rfl, ValR.same H (u := .pointer (some (L.addr c))) ?_ hx0⟩
        have hsh : w.shape? L.blk = some (e, C.size) := by simp [World.shape?, k1]
        have hs1 : (sizeOf t).run P w = .ok (n + 1) w := run_szA hz
        rw [k2]
        have hk3 : ¬ C.size ≤ c := by omega
        simp [convert, run_underlying hs, run_underlying hd, Conv.unsafePointer, seenAt_row k1, cellsIn, hsh, hs1, hk3]
      · cases hc
    · cases hc
  · rename_i t g v c hs hd
    have hx0 := hx
    simp only [RV] at hx
    obtain ⟨L, hL, h1, rfl⟩ := hx
    split at hc
    · rename_i n hz
      split at hc
      · rename_i hl
        cases hc
        obtain ⟨C, e, k1, k2, k3, k4⟩ := liesIn_sound H hL hl
        refine ⟨_, _, _, rfl, ValR.same H (u := .pointer (some (L.addr c))) ?_ hx0⟩
        have hsh : w.shape? L.blk = some (e, C.size) := by simp [World.shape?, k1]
        have hs1 : (sizeOf t).run P w = .ok (n + 1) w := run_szA hz
        rw [k2]
        simp [convert, run_underlying hs, run_underlying hd, Conv.unsafePointer, seenAt_row k1, variablesAt, hsh, hs1, k4]
      · cases hc
    · cases hc
  · cases hc

theorem copyA_sound {E : Env} (H : WR W0 E.base σ h next w) {dt ty : TypeId} {ts : List TypeId} {us : List Value} {d s : AV} {D S : Value} (hd : RV σ d D) (hs : RV σ s S) {res : Res} (hc : copyA E h next dt d s = some res) :
    ∃ v h' n', res = .val v h' n' ∧ ValR W0 E.base σ next v h' n' ((Builtin.copy_ (dt :: ts).toArray ty (D :: S :: us).toArray).run E.P w) := by
  unfold copyA at hc
  split at hc
  · rename_i e ht
    split at hc
    · rename_i size hz
      split at hc
      · rename_i g v c n cap es g' v' c' n' cap' es'
        simp only [RV] at hd hs
        obtain ⟨a, k, rfl, h1, h2, L, hL, h3, h4⟩ := hd
        obtain ⟨a', k', rfl, h1', h2', L', hL', h3', h4'⟩ := hs
        split at hc
        · rename_i he
          have := Nat.eq_of_beq_eq_true he
          subst this
          split at hc
          · rename_i he'
            have := Nat.eq_of_beq_eq_true he'
            subst this
            split at hc
            · rename_i l hl
              split at hc
              · rename_i hh hset
                cases hc
                obtain ⟨vals, g1, g2, g3, _⟩ := getCells_sound H hL' h3' hl
                obtain ⟨w', r1, r2⟩ := setCells_sound E.P H hL h3 g1 hset
                have hmin : Nat.min n' n = min n' n := rfl
                -- the cells, read
                have hread : (Builtin.firstCells es' (Nat.min n' n) (.slice (some a') n' k')).run E.P w = .ok vals.toArray w := by
                  rcases h4' with ⟨h5, h6⟩ | ⟨rfl, h6⟩
                  · subst h5
                    have h0 : Nat.min 0 n = 0 := Nat.zero_min n
                    have : vals = [] := List.eq_nil_of_length_eq_zero (by rw [g2, h0]; exact Nat.zero_mul _)
                    rw [h0, this]
                    simp [Builtin.firstCells, loadCells, loadCellsFrom]
                  · exact run_firstCells_some w es' _ (L'.addr c') n' k' vals g2 g3
                have hwrite : (storeCells a vals 0).run E.P w = .ok () w' := by
                  rcases h4 with ⟨h5, h6⟩ | ⟨rfl, h6⟩
                  · subst h5
                    have h0 : Nat.min n' 0 = 0 := Nat.min_zero n'
                    have : vals = [] := List.eq_nil_of_length_eq_zero (by rw [g2, h0]; exact Nat.zero_mul _)
                    subst this
                    exact r1
                  · exact r1
                refine ⟨_, _, _, rfl, σ, .int .i64 (Int.ofNat (Nat.min n' n)), w', ?_, Sub.refl σ, New.refl σ _ _, r2, by simp only [RV], Nat.le_refl _⟩
                simp only [Builtin.copy_, List.getElem?_toArray, List.getElem?_cons_zero, List.getElem?_cons_succ]
                simp only [Sem.run_bind, run_underlying ht, Result.andThen_ok, Builtin.lenOf, Sem.run_pure, run_szA hz, hread, hwrite, goInt]
                rfl
              · cases hc
            · cases hc
          · cases hc
        · cases hc
      · cases hc
    · cases hc
  · cases hc
end
end Go.Vm
end
section
namespace Go.Vm

section
variable {P : Program} {W0 : World} {base : Nat} {σ : Sig} {h : T Obj} {next : Pos} {w : World}

theorem eqKey_bits {kd : TypeDesc} {x y : AV} {u v : Value} (hx : RV σ x u) (hy : RV σ y v) (he : eqKey kd x y = some true) : ∀ n, Instr.sameBits n v u = true := by
  obtain ⟨_, h⟩ := eqKey_now hx hy he
  have huv := h rfl
  subst huv
  intro n
  cases kd <;> simp only [eqKey] at he <;> (try (cases he; done))
  · cases x <;> (try simp only at he) <;> (try (cases he; done))
    simp only [RV] at hx
    subst hx
    cases n <;> simp [Instr.sameBits]
  · cases x <;> (try simp only at he) <;> (try (cases he; done))
    simp only [RV] at hx
    obtain ⟨s, rfl, _⟩ := hx
    have : (s == s) = true := by rw [bytes_beq]; simp
    cases n <;> simp [Instr.sameBits, this]

theorem eqKey_ne {kd : TypeDesc} {x y : AV} {u v : Value} (hx : RV σ x u) (hy : RV σ y v) (he : eqKey kd x y = some false) : u ≠ v := by
  intro e
  subst e
  have h1 := (eqKey_now hx hy he).1
  cases kd <;> simp only [eqKey] at he <;> (try (cases he; done))
  · cases x <;> (try simp only at he) <;> (try (cases he; done))
    simp only [RV] at hx
    subst hx
    simp [Instr.sameNow] at h1
  · cases x <;> (try simp only at he) <;> (try (cases he; done))
    simp only [RV] at hx
    obtain ⟨s, rfl, _⟩ := hx
    have : (s == s) = true := by rw [bytes_beq]; simp
    simp [Instr.sameNow, this] at h1

theorem putA_sound {kd : TypeDesc} {k v : AV} {K V : Value} (hk : RV σ k K) (hv : RV σ v V) : ∀ (es : List (AV × AV)) (l : List MapEntry) (i : Nat) (es' : List (AV × AV)), MR σ es l → putA (eqKey kd) k v es = some es' →
    (Instr.findNow kd K l i = some none ∧ (∀ e ∈ l, e.key ≠ K) ∧ ∀ e : MapEntry, e.key = K → e.val = V → MR σ es' (l ++ [e])) ∨
    ∃ j u e, Instr.findNow kd K l i = some (some (i + j, u)) ∧ l[j]? = some e ∧ (∀ n, Instr.sameBits n e.key K = true) ∧ K = e.key ∧ MR σ es' (l.modify j fun e => { e with key := K, val := V })
  | [], l, i, es', hm, hp => by
    simp only [MR] at hm
    subst hm
    simp only [putA, Option.some.injEq] at hp
    subst hp
    refine .inl ⟨rfl, by simp, fun e h1 h2 => ⟨e, [], rfl, by rw [h1]; exact hk, by rw [h2]; exact hv, rfl⟩⟩
  | (x, y) :: es, l, i, es', hm, hp => by
    obtain ⟨e, l', rfl, h1, h2, h3⟩ := hm
    simp only [putA] at hp
    cases hb : eqKey kd k x with
    | none => rw [hb] at hp; cases hp
    | some b =>
      obtain ⟨hn, hn2⟩ := eqKey_now hk h1 hb
      rw [hb] at hp
      cases b with
      | true =>
        cases hp
        refine .inr ⟨0, e.val, e, by simp [Instr.findNow, hn], rfl, eqKey_bits hk h1 hb, hn2 rfl, ?_⟩
        exact ⟨{ e with key := K, val := V }, l', rfl, hk, hv, h3⟩
      | false =>
        simp only at hp
        cases hr : putA (eqKey kd) k v es with
        | none => rw [hr] at hp; cases hp
        | some r =>
          rw [hr] at hp; cases hp
          rcases putA_sound hk hv es l' (i + 1) r h3 hr with ⟨g1, g0, g2⟩ | ⟨j, u, e', g1, g2, g3, g5, g4⟩
          · refine .inl ⟨by simpa [Instr.findNow, hn] using g1, fun e1 k1 => by
              rcases List.mem_cons.1 k1 with rfl | k1
              · exact (eqKey_ne hk h1 hb).symm
              · exact g0 e1 k1, fun e1 k1 k2 => ⟨e, l' ++ [e1], rfl, h1, h2, g2 e1 k1 k2⟩⟩
          · refine .inr ⟨j + 1, u, e', ?_, by simpa using g2, g3, g5, ?_⟩
            · have : i + (j + 1) = i + 1 + j := by omega
              rw [this]
              simpa [Instr.findNow, hn] using g1
            · exact ⟨e, l'.modify j fun e => { e with key := K, val := V }, by simp, h1, h2, g4⟩

theorem map_turn (H : WR W0 base σ h next w) {g : Pos} {L : Loc} (hL : σ g 0 = some L) (hgb : base < g.val) {es es' : List (AV × AV)} (hg : h.get g = some (.map es)) {l : Array MapEntry} {ck : Nat} (hm : MR σ es' l.toList) (hst : MapKept.Stamped l ck ∧ l.toList.map (·.born) = List.range l.size ∧ ck = l.size) :
    WR W0 base σ (h.set (.map es') g) next (setB w L.blk (.map l ck)) := by
  refine H.turn hL hgb _ _ ?_
  intro v' L' hL'
  obtain ⟨rfl, _⟩ := H.obj _ _ _ _ hL' hg
  rw [hL] at hL'
  cases hL'
  rw [if_pos rfl]
  exact ⟨rfl, l, ck, rfl, hm, hst⟩

theorem updateA_sound {E : Env} (H : WR W0 E.base σ h next w) {ty : TypeId} {m k x : AV} {M K X : Value} (hm : RV σ m M) (hk : RV σ k K) (hx : RV σ x X) {res : Res} (hu : opE.updateA E h next ty (some m) (some k) (some x) = some res) :
    ∃ h' w', res = .val undefA h' next ∧ (Instr.mapUpdate ty M K X).run E.P w = .ok () w' ∧ WR W0 E.base σ h' next w' := by
  unfold opE.updateA at hu
  split at hu
  · rename_i kt et g k' x' ht e1 e2 e3
    cases e1; cases e2; cases e3
    simp only [RV] at hm
    obtain ⟨L, hL, rfl⟩ := hm
    split at hu
    · cases hu
    · rename_i hold
      have hgb := old_false hold
      split at hu
      · rename_i es kd hg hkd
        split at hu
        · rename_i hpk
          split at hu
          · rename_i es' hput
            cases hu
            obtain ⟨_, l, ck, h5, h6, h7, h8, h9⟩ := H.obj _ _ _ _ hL hg
            have hck := plainKey_check (P := E.P) (w := w) hkd hpk false K
            rcases putA_sound hk hx es l.toList 0 es' h6 hput with ⟨g1, g0, g2⟩ | ⟨j, u, e, g1, g2, g3, g5, g4⟩
            · refine ⟨_, _, rfl, ?_, map_turn H hL hgb hg (l := l.push { key := K, val := X, born := ck }) (ck := ck + 1) (by rw [Array.toList_push]; exact g2 _ rfl rfl) ⟨MapKept.stamped_push h7 g0, by rw [Array.toList_push, List.map_append, h8, h9, Array.size_push, List.range_succ]; rfl, by rw [h9, Array.size_push]⟩⟩
              simp only [Instr.mapUpdate, Sem.run_bind, run_underlying ht, Result.andThen_ok, getObj, Sem.run, h5, hck, Instr.findKey, run_underlying hkd, g1, Sem.run_pure, Go.setObj]
              rfl
            · refine ⟨_, _, rfl, ?_, map_turn H hL hgb hg (l := l.modify j fun e => { e with key := K, val := X }) (ck := ck) (by rw [Array.toList_modify]; exact g4) ⟨MapKept.stamped_modify h7 j _ (fun _ _ => rfl) (fun e1 _ he1 => by
                have : l[j]? = some e := by simpa using g2
                rw [this] at he1; cases he1; exact g5), by
                rw [Array.size_modify, ← h8]
                apply List.ext_getElem?
                intro q
                simp only [List.getElem?_map, Array.getElem?_toList, Array.getElem?_modify]
                split
                · cases l[q]? <;> rfl
                · rfl, by rw [h9, Array.size_modify]⟩⟩
              have hj : (l[j]?).map (·.key) = some e.key := by
                have : l[j]? = some e := by simpa using g2
                rw [this]; rfl
              simp only [Instr.mapUpdate, Sem.run_bind, run_underlying ht, Result.andThen_ok, getObj, Sem.run, h5, hck, Instr.findKey, run_underlying hkd, g1, Sem.run_pure, Nat.zero_add, hj, Option.getD_some, Instr.keyThatStays, g3, if_true, Go.setObj]
              rfl
          · cases hu
        · cases hu
      · cases hu
  · cases hu
end
end Go.Vm
end
section
namespace Go.Vm

/-- What a program must be. -/
structure EnvOK (E : Env) : Prop where
  noEsc : ∀ f fn x w, E.P.funcs[f]? = some fn → fn.body = none → fn.name = "internal/abi.NoEscape" → (callFunc f #[x]).run E.P w = .ok (.value x) w

section
variable {P : Program} {W0 : World} {base : Nat} {σ : Sig} {h : T Obj} {next : Pos} {w : World}

/-- What an operation comes to. -/
def ResR (W0 : World) (base : Nat) (σ : Sig) (next : Pos) (w : World) : Res → Result Next → Prop
  | .val v h' next', r => ∃ σ' u w', (r = .ok (.value u) w' ∨ (r = .ok .skip w' ∧ u = undef)) ∧ Sub σ σ' ∧ New σ σ' next [] ∧ WR W0 base σ' h' next' w' ∧ RV σ' v u ∧ next.val ≤ next'.val
  | .enter f args, r => ∃ us : List Value, r = .ok (.enter f us.toArray) w ∧ RVs σ args us
  | .round l lp args, r => ∃ (L : Loc) (lc : Loop) (us : List Value), σ l 0 = some L ∧ w.heap[L.blk]? = some (.loop lc) ∧ LR σ lp lc ∧ RVs σ args us ∧ us.length = lp.params.length ∧
      r = .ok (.round L.blk lc.fn ((lc.params.zip us.toArray).foldl (fun tmps (t, a) => tmps.setIfInBounds t a) lc.tmps) lc.assign lc.body) w
  | .defer d, r => ∃ d', r = .ok (.defer d') w ∧ DR σ d d'
  | .recover, r => r = .ok .recover w
  | .panic v, r => ∃ u, r = .halt (.panic u) w ∧ RV σ v u

theorem ResR.of_val {s : Sem Value} {res : Res} (hv : ∃ v h' n', res = .val v h' n' ∧ ValR W0 base σ next v h' n' (s.run P w)) : ResR W0 base σ next w res ((do pure (.value (← s)) : Sem Next).run P w) := by
  obtain ⟨v, h', n', rfl, σ', u, w', h1, h2, h3, h4, h5, h6⟩ := hv
  refine ⟨σ', u, w', .inl ?_, h2, h3, h4, h5, h6⟩
  rw [Sem.run_bind, h1]; rfl

theorem callF_sound {E : Env} (hE : EnvOK E) (H : WR W0 E.base σ h next w) {f : FuncId} {args : List AV} {us : List Value} (ha : RVs σ args us) {res : Res} (hc : callF E h next f args = some res) :
    ResR W0 E.base σ next w res ((callFunc f us.toArray).run E.P w) := by
  unfold callF at hc
  split at hc
  · rename_i fn hf
    split at hc
    · rename_i body hb
      split at hc
      · rename_i hn
        cases hc
        refine ⟨us, ?_, ha⟩
        have hn' : ¬ fn.name = "runtime.NumGoroutine" := by simpa using hn
        simp only [callFunc, Sem.run_bind, run_program, Result.andThen_ok, hf]
        simp [hn', hb]
      · cases hc
    · rename_i hb
      split at hc
      · rename_i hn
        split at hc
        · rename_i x
          cases hc
          obtain ⟨u, us', rfl, h1, h2⟩ := RVs.cons_inv ha
          have := RVs.nil_inv h2
          subst this
          exact ⟨σ, u, w, .inl (hE.noEsc f fn u w hf hb (by simpa using hn)), Sub.refl σ, New.refl σ _ _, H, h1, Nat.le_refl _⟩
        · cases hc
      · cases hc
  · cases hc

theorem methodA_sound {t : TypeId} {name : String} {k : FuncId} (hm : methodA P t name = some k) (v : Value) (n : Nat) : (method (n + 1) t v name).run P w = .ok (k, v) w := by
  unfold methodA at hm
  split at hm
  · rename_i i hi
    split at hm
    · rename_i m hf
      split at hm
      · rename_i hp
        have hpe : m.path.isEmpty = true := by
          have : m.path = #[] := by
            apply Array.ext'; simpa using hp
          rw [this]; rfl
        split at hm
        · rename_i f el h1 h2
          cases hm
          simp [method, run_info hi, hf, hp, follow, h1, receiverAt, run_underlying h2, Place.get]
        · rename_i f fs h1 h2
          cases hm
          simp [method, run_info hi, hf, hp, follow, h1, receiverAt, run_underlying h2, Place.get]
        · cases hm
      · cases hm
    · cases hm
  · cases hm

theorem invoke_method {E : Env} (hE : EnvOK E) (H : WR W0 E.base σ h next w) {ty : TypeId} {name : String} {k : FuncId} {v : AV} {V : Value} {args : List AV} {us : List Value} (hv : RV σ v V) (ha : RVs σ args us)
    (hm : methodA E.P ty name = some k) {res : Res} (hc : callF E h next k (v :: args) = some res) (cap : Array Value) :
    ResR W0 E.base σ next w res ((invoke (.fn (.method name) cap) (.iface ty V :: us).toArray).run E.P w) := by
  have hcs := callF_sound hE H (RVs.cons hv ha) hc
  have hmt := methodA_sound (w := w) hm V (E.P.types.size + Made.depth - 1)
  have hpos : E.P.types.size + Made.depth - 1 + 1 = E.P.types.size + Made.depth := by
    have : 0 < Made.depth := by decide
    omega
  rw [hpos] at hmt
  have hr : (invoke (.fn (.method name) cap) (.iface ty V :: us).toArray).run E.P w = (callFunc k (V :: us).toArray).run E.P w := by
    have e1 : ((Value.iface ty V :: us).toArray)[0]? = some (.iface ty V) := rfl
    have e2 : (Value.iface ty V :: us).toArray.extract 1 (Value.iface ty V :: us).toArray.size = us.toArray := by
      simp [List.extract_eq_take_drop]
    have e3 : #[V] ++ us.toArray = (V :: us).toArray := by simp
    simp only [invoke, e1, e2, callMethod, Sem.run_bind, run_program, Result.andThen_ok, hmt, e3]
  rw [hr]; exact hcs

theorem invokeA_sound {E : Env} (hE : EnvOK E) (H : WR W0 E.base σ h next w) {f : AV} {F : Value} {args : List AV} {us : List Value} (hf : RV σ f F) (ha : RVs σ args us) {res : Res} (hc : invokeA E h next f args = some res) :
    ∃ d, (Deferred.ofValue F us.toArray).run E.P w = .ok d w ∧ ResR W0 E.base σ next w res ((invoke d.target d.args).run E.P w) := by
  unfold invokeA at hc
  split at hc
  · rename_i k first cap
    simp only [RV] at hf
    obtain ⟨x, y, rfl, _, h1, h2⟩ := hf
    refine ⟨_, rfl, ?_⟩
    have := callF_sound hE H ((h1.append ha).append h2) hc
    simpa [invoke] using this
  · rename_i name first cap
    simp only [RV] at hf
    obtain ⟨x, y, rfl, _, h1, h2⟩ := hf
    refine ⟨_, rfl, ?_⟩
    have h3 := h1.append ha
    split at hc
    · rename_i t v rest he
      rw [he] at h3
      obtain ⟨V, vs, e1, h4, h5⟩ := RVs.cons_inv h3
      simp only [RV] at h4
      obtain ⟨V', rfl, h4⟩ := h4
      split at hc
      · rename_i k hm
        have := invoke_method hE H h4 h5 hm hc (List.toArray y)
        have e2 : List.toArray x ++ us.toArray = (Value.iface t V' :: vs).toArray := by rw [← e1]; simp
        simp only [e2]
        exact this
      · cases hc
    · cases hc
  · rename_i g
    simp only [RV] at hf
    obtain ⟨L, hL, rfl⟩ := hf
    refine ⟨_, rfl, ?_⟩
    split at hc
    · rename_i l hg
      split at hc
      · rename_i hn
        cases hc
        obtain ⟨_, lc, h1, h2⟩ := H.obj _ _ _ _ hL hg
        have hlen : us.length = l.params.length := by
          have := Nat.eq_of_beq_eq_true hn
          rw [len_eq, len_eq] at this
          rw [← RVs.length ha]; exact this
        refine ⟨L, lc, us, hL, h1, h2, ha, hlen, ?_⟩
        have hsz : (#[] ++ us.toArray : Array Value).size = lc.params.size := by
          have : lc.params.size = lc.params.toList.length := by simp
          rw [this, h2.params]; simp [hlen]
        simp only [invoke, Instr.yield, Instr.getLoop, Sem.run_bind, getObj, Sem.run, h1, Result.andThen_ok, Sem.run_pure]
        simp at hsz
        simp [hsz]
      · cases hc
    · cases hc
  · cases hc
end
end Go.Vm
end
section
namespace Go.Vm

section
variable {P : Program} {W0 : World} {base : Nat} {σ : Sig} {h : T Obj} {next : Pos} {w : World}

theorem newMap_sound (H : WR W0 base σ h next w) : WR W0 base (put σ next 0 ⟨w.heap.size, 0, 0, 0⟩) (h.set (.map []) next) next.succ (w.alloc (.map #[] 0)) := by
  refine H.alloc H.fresh H.nextp _ (by rw [Pos.val_succ]; omega) (by rw [Pos.val_succ]; omega) _ _ rfl _ ?_ ?_
  · intro k hk; rw [T.get_set, if_neg (Ne.symm hk)]
  · intro o ho
    rw [T.get_set, if_pos rfl] at ho
    cases ho
    exact ⟨rfl, #[], 0, rfl, rfl, MapKept.stamped_empty 0, rfl, rfl⟩

theorem makeMap_res (H : WR W0 base σ h next w) {s : Sem Value} (hr : s.run P w = .ok (.map (some w.heap.size)) (w.alloc (.map #[] 0))) :
    ResR W0 base σ next w (.val (.map next) (h.set (.map []) next) next.succ) ((do pure (.value (← s)) : Sem Next).run P w) :=
  ResR.of_val ⟨_, _, _, rfl, _, _, _, hr, put_sub _ _ _ _ (H.fresh 0), put_new (Nat.le_refl _), newMap_sound H, by simp only [RV]; exact ⟨_, put_same _ _ _ _, rfl⟩, by rw [Pos.val_succ]; omega⟩

theorem makeSlice_sound (H : WR W0 base σ h next w) {ty e : TypeId} {i : TypeInfo} {z : AV} {l c : Nat} {k1 k2 : IntKind} (ht : P.underlying ty = some (.slice e)) (hi : P.info? e = some i) (hz : zeroA P e = some z)
    (hzs : len z.cells = i.size) (hlc : l ≤ c) (hc : c + i.bytes ≤ 1000000) :
    ValR W0 base σ next (.slice next 0 0 l (some c) i.size) (h.set (.arr (setRow 0 (replicateA c z.cells) 0 .leaf) 0 [Nat.mul c i.size] 0 e) next) next.succ
      ((Instr.makeSlice ty (.int k1 (Int.ofNat l)) (.int k2 (Int.ofNat c))).run P w) := by
  obtain ⟨Z, hZ, hr⟩ := run_zeroA (P := P) (w := w) σ hz
  have hzl : z.cells.length = i.size := by rw [← len_eq]; exact hzs
  have hwl : IntKind.i64.wrap (Int.ofNat l) = (l : Int) := wrap_small _ (Int.natCast_nonneg l) (by show (l : Int) < _; omega)
  have hwc : IntKind.i64.wrap (Int.ofNat c) = (c : Int) := wrap_small _ (Int.natCast_nonneg c) (by show (c : Int) < _; omega)
  generalize hR : (Array.range (c * i.size)).map (fun j => Z.cells[j % Z.cells.size]!) = R
  have hrep := replicate_sound hr c i.size hzs Z.cells (fun _ => rfl)
  rw [hR] at hrep
  have hRs : R.size = c * i.size := by rw [← hR]; simp
  have hR0 : c * i.size = 0 → (Array.range (c * i.size)).map (fun j => (#[] : Array Value)[j % (#[] : Array Value).size]!) = R := fun h0 => by
    have e1 : R = #[] := Array.eq_empty_of_size_eq_zero (by omega)
    rw [e1]
    exact Array.eq_empty_of_size_eq_zero (by simp [h0])
  have hbig : ¬ ((i.bytes : Int) * (c : Int) > 2 ^ 48) := by
    have h1 : i.bytes * c ≤ 1000000 * 1000000 := Nat.mul_le_mul (by omega) (by omega)
    have h2 : ((2 : Int) ^ 48) = 281474976710656 := by decide
    have h3 : ((i.bytes * c : Nat) : Int) = (i.bytes : Int) * (c : Int) := by push_cast; rfl
    omega
  have hrun : (Instr.makeSlice ty (.int k1 (Int.ofNat l)) (.int k2 (Int.ofNat c))).run P w = .ok (.slice (some ⟨w.heap.size, 0, none⟩) l c) (w.alloc (.cells R e)) := by
    unfold Instr.makeSlice
    rw [Sem.run_bind, run_underlying ht, Result.andThen_ok]
    simp only [asInt, asIntOf, Sem.run_bind, Sem.run_pure, Result.andThen_ok, run_info hi, hwl, hwc]
    have hcond : ((decide ((c : Int) < 0) || decide ((i.bytes : Int) * (c : Int) > 2 ^ 48)) || decide ((l : Int) < 0) || decide ((l : Int) > (c : Int))) = false := by
      have h1 : ¬ (c : Int) < 0 := by omega
      have h2 : ¬ (l : Int) < 0 := by omega
      have h3 : ¬ (l : Int) > (c : Int) := by omega
      simp only [decide_eq_false h1, decide_eq_false hbig, decide_eq_false h2, decide_eq_false h3, Bool.or_false]
    rw [hcond]
    simp only [Bool.false_eq_true, if_false, Sem.run_bind, run_askRoom, Result.andThen_ok, Int.toNat_natCast, sizeOf, run_info hi, Sem.run_pure]
    by_cases h0 : c * i.size = 0
    · rw [if_pos h0]
      simp only [pure_bind, hR0 h0]
      simp [newRow]
    · rw [if_neg h0]
      rw [Sem.run_bind, hZ, Result.andThen_ok]
      simp only [pure_bind, hR]
      simp [newRow]
  refine ⟨put σ next 0 ⟨w.heap.size, 0, 0, R.size⟩, _, _, hrun, put_sub _ _ _ _ (H.fresh 0), put_new (Nat.le_refl _), ?_, ?_, by rw [Pos.val_succ]; omega⟩
  · refine H.alloc H.fresh H.nextp _ (by rw [Pos.val_succ]; omega) (by rw [Pos.val_succ]; omega) _ _ rfl _ ?_ ?_
    · intro k hk; rw [T.get_set, if_neg (Ne.symm hk)]
    · intro o ho
      rw [T.get_set, if_pos rfl] at ho
      cases ho
      refine OR.newArr ?_ (by rw [hRs]; exact Nat.le_refl _) (fun _ => rfl) (by intros; simp)
      have : R.toList.take (c * i.size) = R.toList := List.take_of_length_le (by simp [hRs])
      show RVs _ _ (R.toList.take (c * i.size))
      rw [this]
      exact RVs.mono (put_sub _ _ _ _ (H.fresh 0)) _ _ hrep
  · simp only [RV]
    exact ⟨_, c, rfl, hlc, (fun q hq => by cases hq; rfl), _, put_same _ _ _ _, Nat.le_refl _, .inr ⟨rfl, by show 0 + (0 - 0) + c * i.size ≤ R.size; omega⟩⟩

theorem rowBytes_sound : ∀ (l : List AV) (bs : List Nat) (vals : List Value), RVs σ l vals → rowBytes l = some bs → vals = bs.map (fun b : Nat => Value.int .u8 (b : Int)) ∧ ∀ b ∈ bs, b < 256
  | [], bs, vals, hr, hb => by
    simp only [rowBytes, Option.some.injEq] at hb
    subst hb
    rw [RVs.nil_inv hr]
    exact ⟨rfl, by simp⟩
  | x :: l, bs, vals, hr, hb => by
    obtain ⟨v, vs, rfl, h1, h2⟩ := RVs.cons_inv hr
    unfold rowBytes at hb
    split at hb
    · rename_i e; cases e
    · rename_i b l' e
      cases e
      split at hb
      · rename_i hlt
        split at hb
        · rename_i k hk
          cases hb
          obtain ⟨e1, e2⟩ := rowBytes_sound l k vs h2 hk
          simp only [RV] at h1
          subst h1
          refine ⟨by rw [e1]; rfl, ?_⟩
          intro b' hb'
          rw [blt_eq] at hlt
          cases hb' with
          | head => simpa using hlt
          | tail _ hm => exact e2 b' hm
        · cases hb
      · cases hb
    · cases hb

theorem run_loadBytes (b : Nat) : ∀ (bs : List Nat) (off : Nat) (acc : ByteArray), (∀ x ∈ bs, x < 256) → (∀ (j x : Nat), bs[j]? = some x → w.cell? ⟨b, off + j, none⟩ = some (.int .u8 (x : Int))) →
    (loadBytes ⟨b, off, none⟩ acc bs.length).run P w = .ok ⟨acc.data ++ (bs.map (fun x => x.toUInt8)).toArray⟩ w
  | [], off, acc, _, _ => by simp [loadBytes]
  | x :: bs, off, acc, hl, hc => by
    have h0 := hc 0 x rfl
    simp only [Nat.add_zero] at h0
    have hx := hl x (by simp)
    have ih := run_loadBytes b bs (off + 1) (acc.push x.toUInt8) (fun y hy => hl y (by simp [hy])) (fun j y hj => by
      have := hc (j + 1) y (by simpa using hj)
      have e : off + 1 + j = off + (j + 1) := by omega
      rw [e]; exact this)
    simp only [List.length_cons, loadBytes, Sem.run_bind, run_load, h0, Result.andThen_ok, addr_add, Int.toNat_natCast]
    rw [ih]
    congr 1
    have : (acc.push x.toUInt8).data = acc.data.push x.toUInt8 := rfl
    rw [this]
    simp

theorem lies_self {u : TypeId} {i : TypeInfo} (hi : P.info? u = some i) (h1 : i.size = 1) {count off n : Nat} (hle : off + n ≤ count) : liesAt P P.depth u (count / P.cellsOf u) off u n = true := by
  have hc : P.cellsOf u = 1 := by simp [Program.cellsOf, hi, h1]
  obtain ⟨d, hd⟩ : ∃ d, P.depth = d + 1 := ⟨_, rfl⟩
  have hs : sameLayout P P.depth u u = true := by rw [hd]; simp [sameLayout]
  have hr : rowAt P (sameLayout P P.depth · u) P.depth u (count / P.cellsOf u) off n = true := by
    rw [hd]
    unfold rowAt
    rw [hd] at hs
    simp [hc, hle, hs, Nat.mod_one]
  conv => lhs; arg 2; rw [hd]
  unfold liesAt
  rw [hr]; rfl
end
end Go.Vm
end
section
namespace Go.Vm

section
variable {P : Program} {W0 : World} {base : Nat} {σ : Sig} {h : T Obj} {next : Pos} {w : World}

theorem freeze_block {b off n : Nat} {C : Array Value} {e : TypeId} {fz : Nat × Nat} (hb : w.heap[b]? = some (.cells C e fz)) (hn : n ≠ 0) :
    w.freeze ⟨b, off, none⟩ n = setB w b (.cells C e (if fz.1 == fz.2 then (off, off + n) else (min fz.1 off, max fz.2 (off + n)))) := by
  simp only [World.freeze, setB]
  rw [if_neg hn]
  congr 1
  apply Array.ext_getElem?
  intro i
  have hlt := (Array.getElem?_eq_some_iff.1 hb).1
  rw [Array.getElem?_modify, Array.getElem?_setIfInBounds]
  by_cases hi : b = i
  · subst hi
    obtain ⟨lo, hi'⟩ := fz
    simp [hlt, (Array.getElem?_eq_some_iff.1 hb).2]
  · simp [hi]

theorem unsafeString_some : ∃ e1 e2 e3 : String, ∀ (pt ty : TypeId) (ts : List TypeId) (a : Addr) (N : Value), Builtin.unsafeString_ (pt :: ts).toArray ty #[.pointer (some a), N] =
    (do
      let n ← asInt N
      if n < 0 then runtimePanic (.error e1)
      if n > IntKind.i64.max then unsupported (.unsafePointer e2)
      if n = 0 then pure (.string .empty)
      else if ← variablesAt a (← elemOf pt) n.toNat then do
        let s ← loadBytes a .empty n.toNat
        freeze a n.toNat
        pure (.string s)
      else unsupported (.unsafePointer e3)) := ⟨_, _, _, fun _ _ _ _ _ => rfl⟩
theorem unsafeString_none : ∃ e1 e2 e3 : String, ∀ (pt ty : TypeId) (ts : List TypeId) (N : Value), Builtin.unsafeString_ (pt :: ts).toArray ty #[.pointer none, N] =
    (do
      let n ← asInt N
      if n < 0 then runtimePanic (.error e1)
      if n > IntKind.i64.max then unsupported (.unsafePointer e2)
      if n = 0 then pure (.string .empty)
      else runtimePanic (.error e3)) := ⟨_, _, _, fun _ _ _ _ => rfl⟩
theorem unsafeStr_sound {E : Env} (H : WR W0 E.base σ h next w) {pt ty : TypeId} {ts : List TypeId} {p n : AV} {Pv N : Value} (hp : RV σ p Pv) (hn : RV σ n N) {res : Res} (hu : unsafeStr E h next pt p n = some res) :
    ∃ v h' n', res = .val v h' n' ∧ ValR W0 E.base σ next v h' n' ((Builtin.unsafeString_ (pt :: ts).toArray ty #[Pv, N]).run E.P w) := by
  unfold unsafeStr at hu
  split at hu
  · rename_i k
    simp only [RV] at hn
    subst hn
    have hemp : encS ByteArray.empty = 1 := rfl
    split at hu
    · cases hu
      simp only [RV] at hp
      subst hp
      refine ⟨_, _, _, rfl, ValR.same H (u := .string .empty) ?_ (by simp only [RV]; exact ⟨_, rfl, hemp⟩)⟩
      obtain ⟨_, _, _, hbody⟩ := unsafeString_none
      rw [hbody]
      simp [asInt, asIntOf, IntKind.max, IntKind.bits, IntKind.signed]
    · cases hu
      simp only [RV] at hp
      obtain ⟨L, _, _, rfl⟩ := hp
      refine ⟨_, _, _, rfl, ValR.same H (u := .string .empty) ?_ (by simp only [RV]; exact ⟨_, rfl, hemp⟩)⟩
      obtain ⟨_, _, _, hbody⟩ := unsafeString_some
      rw [hbody]
      simp [asInt, asIntOf, IntKind.max, IntKind.bits, IntKind.signed]
    · cases hu
  · rename_i kk k
    simp only [RV] at hn
    subst hn
    split at hu
    · rename_i g v c
      simp only [RV] at hp
      obtain ⟨L, hL, hc0, rfl⟩ := hp
      split at hu
      · rename_i u hpt
        split at hu
        · cases hu
        · rename_i hold
          have hgb := old_false hold
          split at hu
          · rename_i l hl
            split at hu
            · rename_i bs hbs
              split at hu
              · rename_i t latest ends frz el hg
                split at hu
                · rename_i hel
                  have := Nat.eq_of_beq_eq_true hel
                  subst this
                  split at hu
                  · rename_i i hi
                    split at hu
                    · rename_i hsz
                      split at hu
                      · cases hu
                      · rename_i hbig
                        cases hu
                        have hk : ¬ 1000000 < k := by rw [blt_eq] at hbig; simpa using hbig
                        obtain ⟨vals, g1, g2, g3, g4, C, e', fz, g5⟩ := getCells_sound H hL hc0 hl
                        obtain ⟨e1, e2⟩ := rowBytes_sound l bs vals g1 hbs
                        have hlim := g4 (Nat.succ_pos k)
                        obtain ⟨ee, C2, fz2, q1, q2, q3, q4, q5, q6, q7⟩ := H.obj _ _ _ _ hL hg
                        rw [g5] at q2
                        cases q2
                        have hbl : bs.length = k + 1 := by
                          have : vals.length = bs.length := by rw [e1]; simp
                          rw [← this]; exact g2
                        have hshape : w.shape? L.blk = some (el, C.size) := by unfold World.shape?; rw [g5]
                        have hlies := lies_self (P := E.P) hi hsz (count := C.size) (off := L.off + (c - L.c0)) (n := k + 1) (by rw [q3]; exact hlim)
                        have hload := run_loadBytes (P := E.P) (w := w) L.blk bs (L.off + (c - L.c0)) .empty e2 (by
                          intro j x hj
                          have hv : vals[j]? = some (Value.int .u8 (x : Int)) := by rw [e1]; simp [hj]
                          have := g3 j _ hv
                          rw [Loc.addr_add] at this
                          exact this)
                        rw [hbl] at hload
                        have hfr := freeze_block (off := L.off + (c - L.c0)) (n := k + 1) g5 (by omega)
                        generalize hfz' : (if fz.1 == fz.2 then (L.off + (c - L.c0), L.off + (c - L.c0) + (k + 1)) else (min fz.1 (L.off + (c - L.c0)), max fz.2 (L.off + (c - L.c0) + (k + 1)))) = fz' at hfr
                        have hfz2 : ∀ x, fz.2 ≤ x → L.off + (c - L.c0) + (k + 1) ≤ x → fz'.2 ≤ x := by
                          intro x h1 h2
                          rw [← hfz']
                          split
                          · exact h2
                          · show max fz.2 _ ≤ x
                            omega
                        refine ⟨_, _, _, rfl, σ, .string ⟨(bs.map (fun x => x.toUInt8)).toArray⟩, _, ?_, Sem_sub σ, New.refl σ _ _, H.turn hL hgb (.cells C el fz') _ ?_, ?_, Nat.le_refl _⟩
                        · have hk0 : ¬ ((k + 1 : Nat) : Int) > 9223372036854775807 := by omega
                          have hk1 : ¬ ((k + 1 : Nat) : Int) < 0 := by omega
                          have hk2 : ¬ ((k + 1 : Nat) : Int) = 0 := by omega
                          have hmax : IntKind.i64.max = 9223372036854775807 := by decide
                          have hof : (Int.ofNat (k + 1)) = ((k + 1 : Nat) : Int) := rfl
                          have htn : (((k + 1 : Nat) : Int)).toNat = k + 1 := Int.toNat_natCast _
                          obtain ⟨_, _, _, hbody⟩ := unsafeString_some
                          rw [hbody]
                          simp only [asInt, asIntOf, Sem.run_bind, Sem.run_pure, Result.andThen_ok, List.getElem?_toArray, List.getElem?_cons_zero, hof, hk1, hk2, if_false, hmax, hk0,
                            elemOf, run_underlying hpt, variablesAt, run_program, run_shape, Loc.addr, hshape, hlies, if_true, htn, hload, run_freeze, hfr]
                          simp
                        · intro v' L' hL'
                          have ho' := H.obj _ _ _ _ hL' hg
                          by_cases hbb : L.blk = L'.blk
                          · rw [if_pos hbb]
                            have hal := (H.inj _ _ _ _ _ _ hL hL' hbb).2
                            obtain ⟨e3, C3, fz3, p1, p2, p3, p4, p5, p6, p7⟩ := ho'
                            rw [← hbb, g5] at p2
                            cases p2
                            refine ⟨e3, C, fz', p1, rfl, p3, p4, p5, ?_, ?_⟩
                            · intro h0
                              have : Nat.max frz (c + (k + 1)) = 0 := h0
                              have h1 : c + (k + 1) ≤ Nat.max frz (c + (k + 1)) := Nat.le_max_right _ _
                              omega
                            · intro d hd1 hd2 hd3
                              have h1 : c + (k + 1) ≤ Nat.max frz (c + (k + 1)) := Nat.le_max_right _ _
                              have h2 : frz ≤ Nat.max frz (c + (k + 1)) := Nat.le_max_left _ _
                              have hd1' : Nat.max frz (c + (k + 1)) ≤ d := hd1
                              exact hfz2 _ (p7 d (by omega) hd2 hd3) (by omega)
                          · rw [if_neg hbb]
                            obtain ⟨e3, C3, fz3, p1, p2, p3, p4, p5, p6, p7⟩ := ho'
                            refine ⟨e3, C3, fz3, p1, p2, p3, p4, p5, ?_, ?_⟩
                            · intro h0
                              have : Nat.max frz (c + (k + 1)) = 0 := h0
                              have h1 : c + (k + 1) ≤ Nat.max frz (c + (k + 1)) := Nat.le_max_right _ _
                              omega
                            · intro d hd1 hd2 hd3
                              have h2 : frz ≤ Nat.max frz (c + (k + 1)) := Nat.le_max_left _ _
                              have hd1' : Nat.max frz (c + (k + 1)) ≤ d := hd1
                              exact p7 d (by omega) hd2 hd3
                        · simp only [RV]
                          refine ⟨_, rfl, ?_⟩
                          show encL ((bs.map (fun x => x.toUInt8)).map (·.toNat)) 1 = encL bs 1
                          congr 1
                          rw [List.map_map]
                          have : ∀ l : List Nat, (∀ b ∈ l, b < 256) → l.map ((fun x : UInt8 => x.toNat) ∘ fun x : Nat => x.toUInt8) = l := by
                            intro l hl
                            induction l with
                            | nil => rfl
                            | cons b l ih =>
                              have hb := hl b (by simp)
                              simp only [List.map_cons, Function.comp, ih (fun x hx => hl x (by simp [hx]))]
                              congr 1
                              show (b.toUInt8).toNat = b
                              simp
                              omega
                          exact this bs e2
                    · cases hu
                  · cases hu
                · cases hu
              · cases hu
            · cases hu
          · cases hu
      · cases hu
    · cases hu
  · cases hu
where
  Sem_sub (σ : Sig) : Sub σ σ := Sub.refl σ
end
end Go.Vm
end
section
namespace Go.Vm

section
variable {P : Program} {W0 : World} {base : Nat} {σ : Sig} {h : T Obj} {next : Pos} {w : World}

theorem builtin_res {E : Env} {b : Builtin} {types : List TypeId} {ty : TypeId} {consts : Array Bool} {us : List Value} {s : Sem Value} (hb : builtin b types.toArray ty consts us.toArray = (do pure (.value (← s)))) {res : Res}
    (hv : ∃ v h' n', res = .val v h' n' ∧ ValR W0 base σ next v h' n' (s.run P w)) : ResR W0 base σ next w res ((builtin b types.toArray ty consts us.toArray).run P w) := by
  rw [hb]; exact ResR.of_val hv

theorem builtinA_sound {E : Env} (H : WR W0 E.base σ h next w) {b : Builtin} {types : List TypeId} {ty : TypeId} {consts : Array Bool} {args : List AV} {us : List Value} (ha : RVs σ args us) {res : Res} (hb : builtinA E h next b types args = some res) :
    ResR W0 E.base σ next w res ((builtin b types.toArray ty consts us.toArray).run E.P w) := by
  unfold builtinA at hb
  split at hb
  · split at hb
    · rename_i st xt ts s x as
      obtain ⟨S, us', rfl, h1, h2⟩ := RVs.cons_inv ha
      obtain ⟨X, us2, rfl, h3, h4⟩ := RVs.cons_inv h2
      exact builtin_res (E := E) (s := Builtin.append_ (st :: xt :: ts).toArray ty (S :: X :: us2).toArray) rfl (appendA_sound (P := E.P) H h1 h3 hb)
    · cases hb
  · split at hb
    · rename_i dt ts d s as
      obtain ⟨D, us', rfl, h1, h2⟩ := RVs.cons_inv ha
      obtain ⟨S, us2, rfl, h3, h4⟩ := RVs.cons_inv h2
      exact builtin_res (E := E) (s := Builtin.copy_ (dt :: ts).toArray ty (D :: S :: us2).toArray) rfl (copyA_sound H h1 h3 hb)
    · cases hb
  · cases hb
    rfl
  · split at hb
    · rename_i x as
      split at hb
      · rename_i t v
        cases hb
        obtain ⟨X, us', rfl, h1, h2⟩ := RVs.cons_inv ha
        have h1' := h1
        simp only [RV] at h1
        obtain ⟨V, rfl, _⟩ := h1
        exact ⟨.iface t V, rfl, h1'⟩
      · cases hb
    · cases hb
  · split at hb
    · cases hb
      obtain ⟨X, us', rfl, h1, h2⟩ := RVs.cons_inv ha
      have := RVs.nil_inv h2
      subst this
      simp only [RV] at h1
      subst h1
      exact ⟨σ, .pointer none, w, .inl rfl, Sub.refl σ, New.refl σ _ _, H, by simp only [RV], Nat.le_refl _⟩
    · rename_i g v c n cap es
      split at hb
      · cases hb
      · rename_i n
        cases hb
        obtain ⟨X, us', rfl, h1, h2⟩ := RVs.cons_inv ha
        have := RVs.nil_inv h2
        subst this
        simp only [RV] at h1
        obtain ⟨a, cap', rfl, k1, k2, L, hL, k3, k4⟩ := h1
        rcases k4 with ⟨k4, _⟩ | ⟨rfl, k4⟩
        · omega
        · obtain ⟨q, rfl⟩ : ∃ q, cap' = q + 1 := ⟨cap' - 1, by omega⟩
          exact ⟨σ, .pointer (some (L.addr c)), w, .inl rfl, Sub.refl σ, New.refl σ _ _, H, by simp only [RV]; exact ⟨L, hL, k3, rfl⟩, Nat.le_refl _⟩
    · cases hb
  · split at hb
    · rename_i pt ts p n
      obtain ⟨Pv, us', rfl, h1, h2⟩ := RVs.cons_inv ha
      obtain ⟨N, us2, rfl, h3, h4⟩ := RVs.cons_inv h2
      have := RVs.nil_inv h4
      subst this
      exact builtin_res (E := E) (s := Builtin.unsafeString_ (pt :: ts).toArray ty #[Pv, N]) rfl (unsafeStr_sound H h1 h3 hb)
    · cases hb
  · cases hb

theorem opE_sound {E : Env} (hE : EnvOK E) (H : WR W0 E.base σ h next w) {t : T AV} {o : Oper} {ρ : Operand → Value} (hev : ∀ x ∈ opsL o.op, EvOK σ E.base t ρ x) {res : Res} (ho : opE E h next t o = some res) :
    ResR W0 E.base σ next w res ((execOp ρ o).run E.P w) := by
  have newCase : opE.newA E h next t o = some res → ResR W0 E.base σ next w res ((execOp ρ o).run E.P w) := by
    intro hn
    unfold opE.newA at hn
    split at hn
    · rename_i cs e k ha
      cases hn
      obtain ⟨C, h1, h2, h3⟩ := allocA_sound (w := w) hev ha
      obtain ⟨h4, h5⟩ := H.newRow H.fresh H.nextp next.succ (by rw [Pos.val_succ]; omega) (by rw [Pos.val_succ]; omega) h2 h3 (h.set (.row cs e) next)
        (fun q hq => by rw [T.get_set, if_neg (Ne.symm hq)]) (fun o ho => by rw [T.get_set, if_pos rfl] at ho; cases ho; rfl)
      exact ⟨_, _, _, .inl h1, put_sub _ _ _ _ (H.fresh 0), put_new (Nat.le_refl _), h4, h5, by rw [Pos.val_succ]; omega⟩
    · cases hn
  have harg : ∀ (l : Array Operand) as, (∀ x ∈ l.toList, EvOK σ E.base t ρ x) → evalsA E.base t l.toList = some as → RVs σ as (l.toList.map ρ) := fun l as hl ha => evals_sound _ _ hl ha
  unfold opE at ho
  cases hop : o.op <;> simp only [hop] at ho hev <;> (try (cases ho; done)) <;> (try exact newCase ho)
  case assign x =>
    split at ho
    · rename_i v ha
      cases ho
      exact ⟨σ, ρ x, w, .inl (by simp [execOp, hop]), Sub.refl σ, New.refl σ _ _, H, hev x (by simp [opsL]) _ ha, Nat.le_refl _⟩
    · cases ho
  case store ty a x =>
    split at ho
    · rename_i av xv ha hx
      split at ho
      · rename_i h' hs
        cases ho
        obtain ⟨w', h1, h2⟩ := storeA_sound (P := E.P) H (hev a (by simp [opsL]) _ ha) (hev x (by simp [opsL]) _ hx) hs
        refine ⟨σ, undef, w', .inr ⟨?_, rfl⟩, Sub.refl σ, New.refl σ _ _, h2, by simp only [undefA, RV]; exact ⟨[], rfl, RVs.nil⟩, Nat.le_refl _⟩
        simp [execOp, hop, h1]
      · cases ho
    · cases ho
  case convert s d x =>
    split at ho
    · rename_i v ha
      have := ResR.of_val (convA_sound (P := E.P) H (hev x (by simp [opsL]) _ ha) ho)
      simpa [execOp, hop] using this
    · cases ho
  case makeMap ty r =>
    cases r with
    | none =>
      simp only [Option.some.injEq] at ho
      subst ho
      have := makeMap_res (P := E.P) H (s := Instr.makeMap ty none) (by simp [Instr.makeMap])
      simpa [execOp, hop] using this
    | some x =>
      simp only at ho
      split at ho
      · rename_i k e kk n ht hx
        cases ho
        have hx' := hev x (by simp [opsL, oOpt]) _ hx
        simp only [RV] at hx'
        have := makeMap_res (P := E.P) H (s := Instr.makeMap ty (some (ρ x))) (by simp [Instr.makeMap, run_underlying ht, hx', asInt, asIntOf])
        simpa [execOp, hop] using this
      · cases ho
  case makeSlice ty l c =>
    split at ho
    · rename_i e k1 n1 k2 n2 ht hl hc
      have hl' := hev l (by simp [opsL]) _ hl
      have hc' := hev c (by simp [opsL]) _ hc
      simp only [RV] at hl' hc'
      split at ho
      · rename_i i hi
        split at ho
        · rename_i z hz
          split at ho
          · rename_i hb
            split at ho
            · rename_i hle
              split at ho
              · cases ho
              · rename_i hbig
                split at ho
                · cases ho
                · cases ho
                  have hbig' : n2 + i.bytes ≤ 1000000 := by
                    unfold tooMany at hbig
                    rw [blt_eq] at hbig
                    have : ¬ 1000000 < n2 + i.bytes := by simpa using hbig
                    omega
                  have := ResR.of_val ⟨_, _, _, rfl, makeSlice_sound (P := E.P) H (k1 := k1) (k2 := k2) ht hi hz (Nat.eq_of_beq_eq_true hb) (Nat.le_of_ble_eq_true hle) hbig'⟩
                  simpa [execOp, hop, hl', hc'] using this
            · cases ho
          · cases ho
        · cases ho
      · cases ho
    · cases ho
  case insert ty m k x =>
    have hu := ho
    unfold opE.updateA at hu
    split at hu
    · rename_i kt et g k' x' ht e1 e2 e3
      rw [e1, e2, e3] at ho
      obtain ⟨h', w', rfl, h1, h2⟩ := updateA_sound H (hev m (by simp [opsL]) _ e1) (hev k (by simp [opsL]) _ e2) (hev x (by simp [opsL]) _ e3) ho
      refine ⟨σ, undef, w', .inr ⟨?_, rfl⟩, Sub.refl σ, New.refl σ _ _, h2, by simp only [undefA, RV]; exact ⟨[], rfl, RVs.nil⟩, Nat.le_refl _⟩
      simp [execOp, hop, h1]
    · cases hu
  case mapUpdate ty m k x =>
    have hu := ho
    unfold opE.updateA at hu
    split at hu
    · rename_i kt et g k' x' ht e1 e2 e3
      rw [e1, e2, e3] at ho
      obtain ⟨h', w', rfl, h1, h2⟩ := updateA_sound H (hev m (by simp [opsL]) _ e1) (hev k (by simp [opsL]) _ e2) (hev x (by simp [opsL]) _ e3) ho
      refine ⟨σ, undef, w', .inr ⟨?_, rfl⟩, Sub.refl σ, New.refl σ _ _, h2, by simp only [undefA, RV]; exact ⟨[], rfl, RVs.nil⟩, Nat.le_refl _⟩
      simp [execOp, hop, h1]
    · cases hu
  case call c =>
    have hargs : ∀ x ∈ c.args.toList, EvOK σ E.base t ρ x := fun x hx => hev x (by simp [opsL, Array.mem_toList_iff.1 hx])
    split at ho
    · rename_i args ha
      have hr := harg c.args args hargs ha
      have hmap : c.args.map ρ = (c.args.toList.map ρ).toArray := map_list _ _
      split at ho
      · rename_i f hc
        split at ho
        · rename_i fv hf
          have hf' := hev f (by simp [opsL, opsL.calleeL, hc]) _ hf
          obtain ⟨d, h1, h2⟩ := invokeA_sound hE H hf' hr ho
          simp only [execOp, hop, resolve, hc, Sem.run_bind, hmap, h1, Result.andThen_ok]
          exact h2
        · cases ho
      · rename_i r name hc
        split at ho
        · rename_i ty v hf
          have hf' := hev r (by simp [opsL, opsL.calleeL, hc]) _ hf
          simp only [RV] at hf'
          obtain ⟨V, e1, h1⟩ := hf'
          split at ho
          · rename_i k hm
            have := invoke_method hE H h1 hr hm ho #[]
            simp only [execOp, hop, resolve, hc, Sem.run_bind, hmap, Sem.run_pure, Result.andThen_ok, e1]
            have e2 : #[Value.iface ty V] ++ (c.args.toList.map ρ).toArray = (Value.iface ty V :: c.args.toList.map ρ).toArray := by simp
            rw [e2]; exact this
          · cases ho
        · cases ho
      · rename_i b hc
        have := builtinA_sound (ty := o.type) (consts := c.args.map fun | .const _ => true | _ => false) H hr ho
        simp only [execOp, hop, resolve, hc, Sem.run_bind, hmap, Sem.run_pure, Result.andThen_ok, invoke]
        exact this
    · cases ho
  case defer c =>
    have hargs : ∀ x ∈ c.args.toList, EvOK σ E.base t ρ x := fun x hx => hev x (by simp [opsL, Array.mem_toList_iff.1 hx])
    split at ho
    · rename_i args ha
      have hr := harg c.args args hargs ha
      have hmap : c.args.map ρ = (c.args.toList.map ρ).toArray := map_list _ _
      split at ho
      · rename_i f hc
        split at ho
        · rename_i fn a b hf
          cases ho
          have hf' := hev f (by simp [opsL, opsL.calleeL, hc]) _ hf
          simp only [RV] at hf'
          obtain ⟨x, y, e1, h1, h2, h3⟩ := hf'
          refine ⟨{ target := .fn fn (List.toArray y), args := List.toArray x ++ (c.args.toList.map ρ).toArray }, ?_, fn, a, b, x, y, c.args.toList.map ρ, rfl, ?_, rfl, by simp, h2, h3, hr⟩
          · simp only [execOp, hop, resolve, hc, Sem.run_bind, hmap, e1, Deferred.ofValue, Sem.run_pure, Result.andThen_ok]
          · cases fn <;> exact h1
        · cases ho
      · cases ho
    · cases ho
  case panic x =>
    split at ho
    · rename_i ty v hx
      cases ho
      have hx' := hev x (by simp [opsL]) _ hx
      have hx2 := hx'
      simp only [RV] at hx2
      obtain ⟨V, e1, _⟩ := hx2
      refine ⟨ρ x, ?_, hx'⟩
      rw [e1]
      simp only [execOp, hop, e1]
      rfl
    · cases ho
end
end Go.Vm
end
