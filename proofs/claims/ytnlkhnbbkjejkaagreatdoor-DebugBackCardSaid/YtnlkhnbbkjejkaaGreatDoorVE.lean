/- DebugBack returns true for every list, index and number, and changes nothing that lay before. No conditions. Part VE. -/
import Derived.Test.YtnlkhnbbkjejkaaGreatDoorVA
import Derived.Orders
import Derived.Test.YtnlkhnbbkjejkaaGreatDoorVD
import Derived.Maps.RangeRun
set_option linter.unusedSimpArgs false
set_option linter.unusedVariables false
section
namespace Go.Vm

/-! ### the orders that may be drawn -/
theorem edgesBack_get {i : Nat} : ∀ {l : List Edge}, edgesBack i l = true → ∀ e ∈ l, Region.binds .any e = true → e.on < i
  | [], _, e, he, _ => by cases he
  | x :: l, h, e, he, hb => by
    simp only [edgesBack, Bool.and_eq_true] at h
    cases he with
    | head =>
      have h1 := h.1
      rw [hb] at h1
      simp only at h1
      simpa [Nat.blt_eq] using h1
    | tail _ hm => exact edgesBack_get h.2 e hm hb
theorem backOk_get : ∀ {l : List Oper} {n : Nat}, backOk l n = true → ∀ (i : Nat) o, l[i]? = some o → ∀ e ∈ o.after.toList, Region.binds .any e = true → e.on < n + i
  | [], _, _, i, o, ho, _, _, _ => by simp at ho
  | x :: l, n, h, i, o, ho, e, he, hb => by
    simp only [backOk, Bool.and_eq_true] at h
    cases i with
    | zero => simp at ho; subst ho; exact edgesBack_get h.1 e he hb
    | succ i =>
      have := backOk_get h.2 i o (by simpa using ho) e he hb
      have h2 : Nat.add n 1 + i = n + (i + 1) := by show n + 1 + i = _; omega
      omega

/-- A list of the numbers of a region, each behind those that it comes after; those that are listed already are left out. -/
structure Lin (ops : Array Oper) (listed : Array Bool) (l : List Nat) : Prop where
  nodup : l.Nodup
  mem : ∀ i, i ∈ l ↔ (i < ops.size ∧ listed.getD i true = false)
  behind : ∀ pre i r, l = pre ++ i :: r → ∀ o, ops[i]? = some o → ∀ e ∈ o.after.toList, Region.binds .any e = true → e.on ∈ pre ∨ listed.getD e.on false = true

theorem ready_mem {ops : Array Oper} {listed : Array Bool} {i : Nat} (h : i ∈ Region.ready .any ops listed) : i < ops.size ∧ listed.getD i true = false ∧ ∀ o, ops[i]? = some o → ∀ e ∈ o.after.toList, Region.binds .any e = true → listed.getD e.on false = true := by
  unfold Region.ready at h
  rw [List.mem_filter] at h
  obtain ⟨h1, h2⟩ := h
  have hlt : i < ops.size := by simpa using h1
  simp only [Bool.and_eq_true, Bool.not_eq_true'] at h2
  refine ⟨hlt, h2.1, ?_⟩
  intro o ho e he hb
  rw [ho] at h2
  simp only [Option.map_some, Option.getD_some] at h2
  have h3 := h2.2
  rw [Array.all_eq_true_iff_forall_mem] at h3
  have := h3 e (Array.mem_toList_iff.1 he)
  simpa [hb] using this
theorem ready_nil {ops : Array Oper} {listed : Array Bool} (hback : ∀ i o, ops[i]? = some o → ∀ e ∈ o.after.toList, Region.binds .any e = true → e.on < i) (hsz : listed.size = ops.size) (h : Region.ready .any ops listed = []) :
    ∀ i, i < ops.size → listed.getD i true = true := by
  intro i
  induction i using Nat.strongRecOn with
  | ind i ih =>
    intro hi
    cases hl : listed.getD i true with
    | true => rfl
    | false =>
      exfalso
      have hmem : i ∈ Region.ready .any ops listed := by
        unfold Region.ready
        rw [List.mem_filter]
        refine ⟨by simpa using hi, ?_⟩
        have ho : ops[i]? = some ops[i] := by simp [hi]
        rw [ho]
        simp only [Option.map_some, Option.getD_some, hl, Bool.not_false, Bool.true_and]
        rw [Array.all_eq_true_iff_forall_mem]
        intro e he
        cases hb : Region.binds .any e with
        | false => simp
        | true =>
          have hlt := hback i _ ho e (Array.mem_toList_iff.2 he) hb
          have hlisted := ih e.on hlt (by omega)
          have hd : listed.getD e.on false = true := by
            have hlt2 : e.on < listed.size := by omega
            simp [Array.getD_eq_getD_getElem?, hlt2] at hlisted ⊢
            exact hlisted
          simp [hd]
      rw [h] at hmem
      cases hmem

theorem go_lin {ops : Array Oper} (hback : ∀ i o, ops[i]? = some o → ∀ e ∈ o.after.toList, Region.binds .any e = true → e.on < i) : ∀ (fuel t : Nat) (listed : Array Bool), listed.size = ops.size →
    (∃ u : List Nat, u.length ≤ fuel ∧ ∀ i, i < ops.size → listed.getD i true = false → i ∈ u) → Lin ops listed (Region.linearise.go .any ops fuel t listed [])
  | 0, t, listed, hsz, ⟨u, hu, hall⟩ => by
    have hu0 : u = [] := List.eq_nil_of_length_eq_zero (by omega)
    subst hu0
    simp only [Region.linearise.go, List.reverse_nil]
    refine ⟨List.nodup_nil, fun i => ⟨fun h => (by cases h), fun ⟨h1, h2⟩ => (by have := hall i h1 h2; cases this)⟩, fun pre i r h => by cases pre <;> cases h⟩
  | fuel + 1, t, listed, hsz, ⟨u, hu, hall⟩ => by
    simp only [Region.linearise.go]
    change Lin ops listed (match (Region.ready .any ops listed)[t % (Region.ready .any ops listed).length]? with
      | some i => Region.linearise.go .any ops fuel (t / (Region.ready .any ops listed).length) (listed.setIfInBounds i true) [i]
      | none => [].reverse)
    cases hi : (Region.ready .any ops listed)[t % (Region.ready .any ops listed).length]? with
    | none =>
      have hnil : Region.ready .any ops listed = [] := by
        cases hr : Region.ready .any ops listed with
        | nil => rfl
        | cons x xs =>
          rw [hr] at hi
          have hlt : t % (x :: xs).length < (x :: xs).length := Nat.mod_lt _ (by simp)
          simp at hi
          simp at hlt
          omega
      have hz := ready_nil hback hsz hnil
      simp only [List.reverse_nil]
      refine ⟨List.nodup_nil, fun i => ⟨fun h => (by cases h), fun ⟨h1, h2⟩ => (by rw [hz i h1] at h2; cases h2)⟩, fun pre i r h => by cases pre <;> cases h⟩
    | some i =>
      simp only
      rw [linearise_go_acc, List.reverse_singleton, List.singleton_append]
      obtain ⟨r1, r2, r3⟩ := ready_mem (List.mem_of_getElem? hi)
      have hget : ∀ (j : Nat) (d : Bool), (listed.setIfInBounds i true).getD j d = if i = j then true else listed.getD j d := by
        intro j d
        simp only [Array.getD_eq_getD_getElem?, Array.getElem?_setIfInBounds]
        by_cases hij : i = j
        · subst hij; simp [show i < listed.size by omega]
        · simp [hij]
      have ih := go_lin hback fuel (t / (Region.ready .any ops listed).length) (listed.setIfInBounds i true) (by simp [hsz]) ⟨u.erase i, by
        have := List.length_erase_of_mem (hall i r1 r2)
        have hpos : 0 < u.length := List.length_pos_of_mem (hall i r1 r2)
        omega, by
        intro j hj hl
        rw [hget] at hl
        by_cases hij : i = j
        · subst hij; simp at hl
        · rw [if_neg hij] at hl
          exact (List.mem_erase_of_ne (Ne.symm hij)).2 (hall j hj hl)⟩
      refine ⟨?_, ?_, ?_⟩
      · rw [List.nodup_cons]
        refine ⟨fun hm => ?_, ih.nodup⟩
        have := ((ih.mem i).1 hm).2
        rw [hget, if_pos rfl] at this
        cases this
      · intro j
        rw [List.mem_cons, ih.mem j, hget]
        by_cases hij : i = j
        · subst hij; simp [r1, r2]
        · rw [if_neg hij]
          constructor
          · rintro (h | h)
            · exact absurd h.symm hij
            · exact h
          · exact fun h => .inr h
      · intro pre j r hl o ho e he hb
        cases pre with
        | nil =>
          simp only [List.nil_append, List.cons.injEq] at hl
          obtain ⟨rfl, _⟩ := hl
          exact .inr (r3 o ho e he hb)
        | cons p pre =>
          simp only [List.cons_append, List.cons.injEq] at hl
          obtain ⟨rfl, hl⟩ := hl
          rcases ih.behind pre j r hl o ho e he hb with h | h
          · exact .inl (List.mem_cons_of_mem _ h)
          · rw [hget] at h
            by_cases hij : i = e.on
            · rw [hij]; exact .inl (by simp)
            · rw [if_neg hij] at h; exact .inr h

/-- The whole order: each number once, behind those that it comes after. -/
theorem lin_all {ops : Array Oper} (hback : backOk ops.toList 0 = true) (t : Nat) : Lin ops (Array.replicate ops.size false) (Region.linearise .any ops t) := by
  have hb : ∀ i o, ops[i]? = some o → ∀ e ∈ o.after.toList, Region.binds .any e = true → e.on < i := by
    intro i o ho e he hbd
    have := backOk_get hback i o (by simpa using ho) e he hbd
    omega
  exact go_lin hb ops.size t _ (by simp) ⟨List.range ops.size, by simp, fun i hi _ => by simpa using hi⟩

/-! ### who comes ahead of whom, by steps -/
theorem bit_lor (a b i : Nat) : bit (Nat.lor a b) i = (bit a i || bit b i) := by
  have h : ∀ n i, bit n i = Nat.testBit n i := by
    intro n i
    unfold bit
    show Nat.beq ((n >>> i) % 2) 1 = _
    simp only [Nat.testBit, Nat.and_comm, Nat.and_one_is_mod]
    have : (n >>> i) % 2 < 2 := Nat.mod_lt _ (by decide)
    rcases Nat.lt_or_ge ((n >>> i) % 2) 1 with h | h
    · have h0 : (n >>> i) % 2 = 0 := by omega
      rw [h0]; rfl
    · have h1 : (n >>> i) % 2 = 1 := by omega
      rw [h1]; rfl
  rw [h, h, h]
  exact Nat.testBit_or a b i
theorem bit_one (k i : Nat) : bit (Nat.shiftLeft 1 k) i = true → i = k := by
  intro hb
  have h : ∀ n i, bit n i = Nat.testBit n i := by
    intro n i
    unfold bit
    show Nat.beq ((n >>> i) % 2) 1 = _
    simp only [Nat.testBit, Nat.and_comm, Nat.and_one_is_mod]
    have : (n >>> i) % 2 < 2 := Nat.mod_lt _ (by decide)
    rcases Nat.lt_or_ge ((n >>> i) % 2) 1 with h | h
    · have h0 : (n >>> i) % 2 = 0 := by omega
      rw [h0]; rfl
    · have h1 : (n >>> i) % 2 = 1 := by omega
      rw [h1]; rfl
  rw [h] at hb
  have : Nat.testBit (1 <<< k) i = true := hb
  rw [Nat.one_shiftLeft, Nat.testBit_two_pow] at this
  have : k = i := by simpa using this
  exact this.symm
theorem orEdges_sound (acc : List Nat) : ∀ (l : List Edge) (s j : Nat), bit (orEdges acc l s) j = true → bit s j = true ∨ ∃ e ∈ l, Region.binds .any e = true ∧ (j = e.on ∨ ∃ b, acc[e.on]? = some b ∧ bit b j = true)
  | [], s, j, h => .inl h
  | e :: l, s, j, h => by
    simp only [orEdges] at h
    cases hb : Region.binds .any e with
    | false =>
      rw [hb] at h
      rcases orEdges_sound acc l _ j h with h | ⟨e', h1, h2⟩
      · exact .inl h
      · exact .inr ⟨e', List.mem_cons_of_mem _ h1, h2⟩
    | true =>
      rw [hb] at h
      rcases orEdges_sound acc l _ j h with h | ⟨e', h1, h2⟩
      · rw [bit_lor, bit_lor] at h
        simp only [Bool.or_eq_true] at h
        rcases h with (h | h) | h
        · exact .inl h
        · exact .inr ⟨e, by simp, hb, .inl (bit_one _ _ h)⟩
        · rw [nth_eq'] at h
          cases ha : acc[e.on]? with
          | none => rw [ha] at h; simp only at h; exact absurd h (by simp [bit])
          | some b => rw [ha] at h; exact .inr ⟨e, by simp, hb, .inr ⟨b, ha, h⟩⟩
      · exact .inr ⟨e', List.mem_cons_of_mem _ h1, h2⟩
where
  nth_eq' {α : Type} : ∀ {n : Nat} {l : List α}, nth n l = l[n]?
    | n, [] => by simp [nth]
    | 0, x :: _ => rfl
    | n + 1, _ :: l => by simp only [nth]; rw [nth_eq' (n := n) (l := l)]; simp
end Go.Vm
end
section
namespace Go.Vm

theorem befores_prefix : ∀ (l : List Oper) (acc : List Nat), ∃ tail, befores l acc = acc ++ tail
  | [], acc => ⟨[], by simp [befores]⟩
  | o :: l, acc => by
    obtain ⟨tail, h⟩ := befores_prefix l (acc ++ [orEdges acc o.after.toList 0])
    exact ⟨orEdges acc o.after.toList 0 :: tail, by simp only [befores]; rw [h]; simp⟩
theorem befores_get : ∀ (l : List Oper) (acc : List Nat) (k : Nat) (o : Oper), l[k]? = some o → (befores l acc)[acc.length + k]? = some (orEdges ((befores l acc).take (acc.length + k)) o.after.toList 0)
  | [], acc, k, o, h => by simp at h
  | x :: l, acc, 0, o, h => by
    simp at h
    subst h
    simp only [befores, Nat.add_zero]
    obtain ⟨tail, ht⟩ := befores_prefix l (acc ++ [orEdges acc x.after.toList 0])
    rw [ht]
    have h1 : (acc ++ [orEdges acc x.after.toList 0] ++ tail).take acc.length = acc := by
      rw [List.append_assoc]; exact List.take_left
    rw [h1]
    simp
  | x :: l, acc, k + 1, o, h => by
    simp only [befores]
    have ih := befores_get l (acc ++ [orEdges acc x.after.toList 0]) k o (by simpa using h)
    have he : (acc ++ [orEdges acc x.after.toList 0]).length + k = acc.length + (k + 1) := by simp; omega
    rw [he] at ih
    exact ih
theorem before_step {ops : List Oper} {i j : Nat} {o : Oper} (ho : ops[i]? = some o) (hb : Before (befores ops []) j i) :
    ∃ e ∈ o.after.toList, Region.binds .any e = true ∧ (j = e.on ∨ (e.on < i ∧ Before (befores ops []) j e.on)) := by
  unfold Before bitOf at hb
  rw [nth_eq] at hb
  have hg := befores_get ops [] i o ho
  simp only [List.length_nil, Nat.zero_add] at hg
  rw [hg] at hb
  simp only at hb
  rcases orEdges_sound _ _ _ _ hb with h | ⟨e, h1, h2, h3⟩
  · exfalso
    have : bit 0 j = false := by unfold bit; rw [show Nat.shiftRight 0 j = 0 from Nat.zero_shiftRight j]; rfl
    rw [this] at h; cases h
  · refine ⟨e, h1, h2, ?_⟩
    rcases h3 with h3 | ⟨b, h4, h5⟩
    · exact .inl h3
    · rw [List.getElem?_take] at h4
      split at h4
      · rename_i hlt
        refine .inr ⟨hlt, ?_⟩
        unfold Before bitOf
        rw [nth_eq, h4]
        exact h5
      · cases h4
theorem before_pre {ops' : Array Oper} {l : List Nat} (hl : Lin ops' (Array.replicate ops'.size false) l) : ∀ (n : Nat) (pre r : List Nat) (i : Nat), pre.length = n → l = pre ++ i :: r → ∀ j, Before (befores ops'.toList []) j i → j ∈ pre := by
  intro n
  induction n using Nat.strongRecOn with
  | ind n ih =>
    intro pre r i hn he j hb
    have hi : i ∈ l := by rw [he]; simp
    have hlt := ((hl.mem i).1 hi).1
    have ho : ops'.toList[i]? = some ops'[i] := by simp [hlt]
    obtain ⟨e, h1, h2, h3⟩ := before_step ho hb
    have hpre : e.on ∈ pre := by
      rcases hl.behind pre i r he _ (by simp [hlt]) e h1 h2 with h | h
      · exact h
      · exfalso
        simp [Array.getD_eq_getD_getElem?, Array.getElem?_replicate] at h
        split at h <;> cases h
    rcases h3 with rfl | ⟨_, h4⟩
    · exact hpre
    · obtain ⟨p1, p2, hp⟩ := List.append_of_mem hpre
      have := ih p1.length (by rw [← hn, hp]; simp) p1 (p2 ++ i :: r) e.on rfl (by rw [he, hp]; simp) j h4
      rw [hp]; simp [this]
theorem topo_all {ops' : Array Oper} {l : List Nat} (hl : Lin ops' (Array.replicate ops'.size false) l) : ∀ (r pre : List Nat), l = pre ++ r → Topo (befores ops'.toList []) r
  | [], _, _ => trivial
  | i :: r, pre, he => by
    refine ⟨fun j hb hj => ?_, topo_all hl r (pre ++ [i]) (by rw [he]; simp)⟩
    have hp := before_pre hl pre.length pre r i rfl he j hb
    have hn := hl.nodup
    rw [he] at hn
    exact (List.nodup_append.1 hn).2.2 j hp j hj rfl
theorem effsOf_mem : ∀ (l : List Oper) (n e : Nat), e ∈ effsOf l n ↔ ∃ k o, l[k]? = some o ∧ e = n + k ∧ isEff o = true
  | [], n, e => by simp [effsOf]
  | x :: l, n, e => by
    have ih := effsOf_mem l (Nat.add n 1) e
    have key : (∃ k o, (x :: l)[k]? = some o ∧ e = n + k ∧ isEff o = true) ↔ (e = n ∧ isEff x = true) ∨ ∃ k o, l[k]? = some o ∧ e = Nat.add n 1 + k ∧ isEff o = true := by
      constructor
      · rintro ⟨k, o, h1, h2, h3⟩
        cases k with
        | zero => simp at h1; subst h1; exact .inl ⟨by omega, h3⟩
        | succ k => exact .inr ⟨k, o, by simpa using h1, by show e = n + 1 + k; omega, h3⟩
      · rintro (⟨h1, h2⟩ | ⟨k, o, h1, h2, h3⟩)
        · exact ⟨0, x, rfl, by omega, h2⟩
        · exact ⟨k + 1, o, by simpa using h1, by have : e = n + 1 + k := h2; omega, h3⟩
    rw [key, ← ih]
    simp only [effsOf]
    cases hx : isEff x with
    | true => simp
    | false => simp

section
variable {E : Env} {W0 : World} {CS : List Frame}
theorem draw_start (hmix : E.P.follows .mixedOrders = true) (s : St) (m : Machine) (id : Nat) (ops : Array Oper) (k : List AItem) (bs es : List Nat) (hm : Stands E W0 CS s m) (hrun : s.fr.mode = .run) (htodo : s.fr.todo = .code (.region id ops true) :: k)
    (hp : planOf ops.toList = some (bs, es)) : ∃ m', Steps E.P m m' ∧ Stands E W0 CS { s with fr := { s.fr with todo := .draw ops.toList bs none es [] [] :: k } } m' := by
  obtain ⟨σ, f, cs, w, rfl, A⟩ := hm
  have hfm := mode_run A.fr hrun
  obtain ⟨p1, p2⟩ := A.fr.top.plain (fun a k' e => by rw [htodo] at e; cases e; rfl)
  rw [htodo] at p1
  obtain ⟨it, K, e1, e2, hK⟩ := p1
  simp only [IR] at e2
  subst e2
  unfold planOf at hp
  split at hp
  · rename_i hc
    cases hp
    simp only [Bool.and_eq_true] at hc
    obtain ⟨hback, hchain⟩ := hc
    have hsched : ∀ t, Region.schedule (E.P.follows .mixedOrders) ops t = Region.linearise .any ops t := fun t => by simp [Region.schedule, hmix]
    have hstep := step_regionT (P := E.P) (cs := cs ++ CS) (w := w) hfm e1
    rw [hsched] at hstep
    generalize hl : Region.linearise .any ops (w.tape w.drawn (.order f.fn id)) = l at hstep
    have hlin : Lin ops (Array.replicate ops.size false) l := by rw [← hl]; exact lin_all hback _
    have hall : ∀ i, i ∈ l ↔ i < ops.size := fun i => by
      rw [hlin.mem i]
      constructor
      · exact fun h => h.1
      · intro h
        refine ⟨h, ?_⟩
        simp [Array.getD_eq_getD_getElem?, Array.getElem?_replicate, h]
    refine ⟨_, .one hstep, σ, { f with todo := .inRegion ops l :: K }, cs, w.drew, rfl, A.wr.drew, A.gl, ⟨A.fr.fn, A.fr.size, ?_, A.fr.defers, A.fr.mode, A.fr.kind, A.fr.round⟩, A.cs, ?_⟩
    · unfold TopR
      refine ⟨ops, l, K, rfl, rfl, hK, ?_⟩
      exact
        { nodup := hlin.nodup
          lt := fun i hi => by have := (hall i).1 hi; simpa using this
          topo := topo_all hlin l [] rfl
          hlast := fun e he => by cases he
          effIn := fun i o _ ho he => (effsOf_mem _ 0 i).2 ⟨i, o, ho, by omega, he⟩
          effRem := fun e he => by
            obtain ⟨k, o, h1, h2, _⟩ := (effsOf_mem _ 0 e).1 he
            have hk : k < ops.toList.length := (List.getElem?_eq_some_iff.1 h1).1
            rw [hall]
            simp at hk
            omega
          effIs := fun e he => by
            obtain ⟨k, o, h1, h2, h3⟩ := (effsOf_mem _ 0 e).1 he
            have : e = k := by omega
            subst this
            exact ⟨o, h1, h3⟩
          chained := hchain
          hdone := fun i o ho hni _ => by
            exfalso
            have hk : i < ops.toList.length := (List.getElem?_eq_some_iff.1 ho).1
            exact hni ((hall i).2 (by simpa using hk))
          doneSmall := fun i hi => by cases hi
          hals := fun i g hi _ => by cases hi
          alsNd := List.nodup_nil
          alsLt := fun i g hi => by cases hi
          htmps := p2.weak (fun _ _ => trivial) }
    · have hn := A.nd
      simp only [alsAll] at hn ⊢
      exact (List.nodup_append.1 hn).2.1
  · cases hp
end
end Go.Vm
end
section
namespace Go.Vm

/-! ### equal values -/
theorem natbeq {a b : Nat} (h : Nat.beq a b = true) : a = b := Nat.eq_of_beq_eq_true h
mutual
theorem AV.eq_of_beq : ∀ (a b : AV), AV.beq a b = true → a = b
  | .bool a, y, h => by cases y <;> simp [AV.beq] at h; rw [h]
  | .int k a, y, h => by
    cases y <;> simp only [AV.beq, Bool.and_eq_true] at h <;> (try (cases h; done))
    rw [intEq_eq] at h
    rename_i k' n'
    have h1 := kindEq_eq h.1
    have h2 : a = n' := by simpa using h.2
    rw [h1, h2]
  | .str a, y, h => by cases y <;> simp only [AV.beq] at h <;> (try (cases h; done)); rw [natbeq h]
  | .ptr g v c, y, h => by
    cases y <;> simp only [AV.beq, Bool.and_eq_true] at h <;> (try (cases h; done))
    rw [Pos.eq_of_beq h.1, natbeq h.2.1, natbeq h.2.2]
  | .nilptr, y, h => by cases y <;> simp only [AV.beq] at h <;> first | rfl | cases h
  | .slice g v c n cap es, y, h => by
    cases y <;> simp only [AV.beq, Bool.and_eq_true] at h <;> (try (cases h; done))
    rename_i cap' _
    obtain ⟨h1, h2, h3, h4, h5, h6⟩ := h
    have hc : cap = cap' := by
      cases cap <;> cases cap' <;> (try simp only at h6) <;> first
        | rfl
        | (cases h6; done)
        | (rw [natbeq h6])
    rw [Pos.eq_of_beq h1, natbeq h2, natbeq h3, natbeq h4, natbeq h5, hc]
  | .nilslice, y, h => by cases y <;> simp only [AV.beq] at h <;> first | rfl | cases h
  | .map g, y, h => by cases y <;> simp only [AV.beq] at h <;> (try (cases h; done)); rw [Pos.eq_of_beq h]
  | .nilmap, y, h => by cases y <;> simp only [AV.beq] at h <;> first | rfl | cases h
  | .func fn a b, y, h => by
    cases y <;> simp only [AV.beq, Bool.and_eq_true] at h <;> (try (cases h; done))
    rename_i fn' a' b'
    obtain ⟨h1, h2, h3⟩ := h
    have hf : fn = fn' := by
      cases fn <;> cases fn' <;> simp only at h1 <;> first
        | (cases h1; done)
        | (rw [natbeq h1])
        | (simp at h1; rw [h1])
    rw [hf, AV.eq_of_beqs _ _ h2, AV.eq_of_beqs _ _ h3]
  | .yield g, y, h => by cases y <;> simp only [AV.beq] at h <;> (try (cases h; done)); rw [Pos.eq_of_beq h]
  | .nilfunc, y, h => by cases y <;> simp only [AV.beq] at h <;> first | rfl | cases h
  | .iface t v, y, h => by
    cases y <;> simp only [AV.beq, Bool.and_eq_true] at h <;> (try (cases h; done))
    rw [natbeq h.1, AV.eq_of_beq _ _ h.2]
  | .niliface, y, h => by cases y <;> simp only [AV.beq] at h <;> first | rfl | cases h
  | .agg a, y, h => by cases y <;> simp only [AV.beq] at h <;> (try (cases h; done)); rw [AV.eq_of_beqs _ _ h]
  | .tuple a, y, h => by cases y <;> simp only [AV.beq] at h <;> (try (cases h; done)); rw [AV.eq_of_beqs _ _ h]
theorem AV.eq_of_beqs : ∀ (a b : List AV), AV.beqs a b = true → a = b
  | [], y, h => by cases y <;> simp only [AV.beqs] at h <;> first | rfl | cases h
  | x :: l, y, h => by
    cases y <;> simp only [AV.beqs, Bool.and_eq_true] at h <;> (try (cases h; done))
    rw [AV.eq_of_beq _ _ h.1, AV.eq_of_beqs _ _ h.2]
end

/-! ### the small operations of a phase -/
theorem mem_iff (i : Nat) : ∀ l : List Nat, mem i l = true ↔ i ∈ l
  | [] => by simp [mem]
  | j :: l => by
    simp only [mem]
    cases h : Nat.beq i j with
    | true => simp [natbeq h]
    | false =>
      have hne : i ≠ j := Nat.ne_of_beq_eq_false h
      simp [hne, mem_iff i l]
theorem smalls_mem (bs : List Nat) (last : Option Nat) (todo : List Nat) : ∀ (l : List Oper) (n k : Nat) (o : Oper), l[k]? = some o → isEff o = false → noneOf bs (n + k) todo = true → (∀ e, last = some e → bitOf bs (n + k) e = false) →
    n + k ∈ smalls bs last todo l n
  | [], n, k, o, h, _, _, _ => by simp at h
  | x :: l, n, k, o, h, he, hno, hl => by
    simp only [smalls]
    cases k with
    | zero =>
      simp at h
      subst h
      rw [he]
      simp only [Nat.add_zero] at hno hl ⊢
      cases last with
      | none => simp [hno]
      | some e => simp [hno, hl e rfl]
    | succ k =>
      have ih := smalls_mem bs last todo l (n + 1) k o (by simpa using h) he (by rw [show n + 1 + k = n + (k + 1) by omega]; exact hno) (fun e h2 => by rw [show n + 1 + k = n + (k + 1) by omega]; exact hl e h2)
      rw [show n + 1 + k = n + (k + 1) by omega] at ih
      have ih' : n + (k + 1) ∈ smalls bs last todo l (Nat.add n 1) := ih
      split
      · exact ih'
      · split
        · exact List.mem_cons_of_mem _ ih'
        · exact ih'
theorem noneOf_get (bs : List Nat) (i : Nat) : ∀ l : List Nat, (∀ e ∈ l, bitOf bs e i = false) → noneOf bs i l = true
  | [], _ => rfl
  | e :: l, h => by simp [noneOf, h e (by simp), noneOf_get bs i l (fun x hx => h x (by simp [hx]))]
theorem checkSmalls_get {E : Env} {n : Nat} {bs : List Nat} {ops : List Oper} {d : DSt} : ∀ {l : List Nat}, checkSmalls E n bs ops d l = true → ∀ i ∈ l, checkSmall E n bs ops d i = true
  | [], _, i, hi => by cases hi
  | x :: l, h, i, hi => by
    simp only [checkSmalls, Bool.and_eq_true] at h
    cases hi with
    | head => exact h.1
    | tail _ hm => exact checkSmalls_get h.2 i hm
/-- What an operation sees has been written by those ahead of it, or not been written. -/
theorem sees_get {bs done : List Nat} {ops : List Oper} {i : Nat} {o : Oper} (h : seesOk bs done ops i o = true) :
    (∀ k, Operand.tmp k ∈ opsL o.op → ∀ j, dstOf ops j = some k → (Before bs j i ∧ i ≠ j) ∨ mem j done = false) ∧
    (∀ q b p d, o.guard = some (q, b) → ops[q]? = some p → p.dst = some d → ∀ j, dstOf ops j = some d → (Before bs j i ∧ i ≠ j) ∨ mem j done = false) := by
  have writers : ∀ (fresh : Nat → Bool) (k : Nat) (l : List Oper) (n : Nat), writersOk bs fresh i k l n = true → ∀ m o, l[m]? = some o → o.dst = some k → (Before bs (n + m) i ∧ i ≠ n + m) ∨ fresh (n + m) = true := by
    intro fresh k l
    induction l with
    | nil => intro n _ m o h; simp at h
    | cons x l ih =>
      intro n hw m o ho hd
      simp only [writersOk, Bool.and_eq_true] at hw
      cases m with
      | zero =>
        simp at ho
        subst ho
        have h1 := hw.1
        rw [hd] at h1
        simp only [Nat.beq_refl, Bool.or_eq_true, Bool.and_eq_true, Bool.not_eq_true'] at h1
        rcases h1 with ⟨h1, h2⟩ | h1
        · exact .inl ⟨h1, by simpa using Nat.ne_of_beq_eq_false h2⟩
        · exact .inr h1
      | succ m =>
        have := ih (Nat.add n 1) hw.2 m o (by simpa using ho) hd
        have e : Nat.add n 1 + m = n + (m + 1) := by show n + 1 + m = _; omega
        rw [e] at this
        exact this
  have operands : ∀ (fresh : Nat → Bool) (l : List Operand), operandsOk bs fresh ops i l = true → ∀ k, Operand.tmp k ∈ l → writersOk bs fresh i k ops 0 = true := by
    intro fresh l
    induction l with
    | nil => intro _ k h; cases h
    | cons x l ih =>
      intro h k hk
      unfold operandsOk at h
      cases x with
      | tmp q =>
        simp only [Bool.and_eq_true] at h
        cases hk with
        | head => exact h.1
        | tail _ hm => exact ih h.2 k hm
      | const v => cases hk with | tail _ hm => exact ih h k hm
      | global g => cases hk with | tail _ hm => exact ih h k hm
      | func f => cases hk with | tail _ hm => exact ih h k hm
  have both : ∀ (fresh : Nat → Bool), (∀ j, fresh j = true → mem j done = false) → opOk bs fresh ops i o = true →
      (∀ k, Operand.tmp k ∈ opsL o.op → ∀ j, dstOf ops j = some k → (Before bs j i ∧ i ≠ j) ∨ mem j done = false) ∧
      (∀ q b p d, o.guard = some (q, b) → ops[q]? = some p → p.dst = some d → ∀ j, dstOf ops j = some d → (Before bs j i ∧ i ≠ j) ∨ mem j done = false) := by
    intro fresh hf h
    simp only [opOk, Bool.and_eq_true] at h
    have fin : ∀ k, writersOk bs fresh i k ops 0 = true → ∀ j, dstOf ops j = some k → (Before bs j i ∧ i ≠ j) ∨ mem j done = false := by
      intro k hw j hj
      unfold dstOf at hj
      cases ho : ops[j]? with
      | none => rw [ho] at hj; cases hj
      | some o' =>
        rw [ho] at hj
        rcases writers fresh k ops 0 hw j o' ho hj with h1 | h1
        · simp only [Nat.zero_add] at h1; exact .inl h1
        · simp only [Nat.zero_add] at h1; exact .inr (hf j h1)
    refine ⟨fun k hk => fin k (operands fresh _ h.1 k hk), ?_⟩
    intro q b p d hg hp hd
    have h2 := h.2
    rw [hg] at h2
    simp only at h2
    rw [nth_eq, hp] at h2
    simp only at h2
    rw [hd] at h2
    exact fin d h2
  unfold seesOk at h
  split at h
  · rename_i h1
    exact both never (fun j hj => by simp [never] at hj) h1
  · exact both _ (fun j hj => by simpa using hj) h

theorem WR.ghost {W0 : World} {base : Nat} {σ : Sig} {h : T Obj} {next next' : Pos} {w : World} (H : WR W0 base σ h next w) {g : Pos} (hg : ∀ v, σ g v = none) (hn : next.val ≤ next'.val) (o : Obj) : WR W0 base σ (h.set o g) next' w := by
  refine ⟨H.os, H.tape, H.output, H.size, H.old, Nat.lt_of_lt_of_le H.nextp hn, fun g' v L e => ?_, H.inj, fun g' v L o' e eo => ?_⟩
  · obtain ⟨h1, h2, h3⟩ := H.loc g' v L e
    exact ⟨h1, h2, by omega⟩
  · rw [T.get_set] at eo
    by_cases hgg : g = g'
    · subst hgg; rw [hg] at e; cases e
    · rw [if_neg hgg] at eo; exact H.obj _ _ _ _ e eo
end Go.Vm
end
section
namespace Go.Vm

theorem smalls_small (bs : List Nat) (last : Option Nat) (todo : List Nat) : ∀ (l : List Oper) (n i : Nat), i ∈ smalls bs last todo l n → ∃ k o, i = n + k ∧ l[k]? = some o ∧ isEff o = false
  | [], n, i, h => by simp [smalls] at h
  | x :: l, n, i, h => by
    have more : i ∈ smalls bs last todo l (Nat.add n 1) → ∃ k o, i = n + k ∧ (x :: l)[k]? = some o ∧ isEff o = false := by
      intro h
      obtain ⟨k, o, h1, h2, h3⟩ := smalls_small bs last todo l (Nat.add n 1) i h
      exact ⟨k + 1, o, by have : i = n + 1 + k := h1; omega, by simpa using h2, h3⟩
    simp only [smalls] at h
    split at h
    · exact more h
    · rename_i hx
      split at h
      · cases h with
        | head => exact ⟨0, x, by omega, rfl, hx⟩
        | tail _ hm => exact more hm
      · exact more h

section
variable {E : Env} {W0 : World} {σ : Sig} {ops : List Oper} {bs : List Nat} {last : Option Nat} {effs : List Nat} {tmps : Array Value} {rem : List Nat} {w : World} {n : Nat}

theorem DI.made {next : Pos} {done : List Nat} {als : List (Nat × Pos)} {t t' : T AV} (h : DI σ E.base next ops bs last effs done als t tmps rem) {i : Nat} {o : Oper} {v : AV} (hi : mem i done = false) (ho : ops[i]? = some o) (hs : isEff o = false) (hset : Vm.setDst n t o.dst v = some t') :
    DI σ E.base next ops bs last effs (i :: done) als t' tmps rem := by
  have hin : i ∈ rem := by
    apply Classical.byContradiction
    intro hni
    have := h.hdone i o ho hni hs
    rw [hi] at this; cases this
  have hmono : ∀ j, mem j (i :: done) = false → mem j done = false := by
    intro j hj
    simp only [mem] at hj
    split at hj
    · cases hj
    · exact hj
  have hself : mem i (i :: done) = true := by simp [mem]
  exact
    { nodup := h.nodup, lt := h.lt, topo := h.topo, hlast := h.hlast, effIn := h.effIn, effRem := h.effRem, effIs := h.effIs, chained := h.chained, hals := h.hals, alsNd := h.alsNd, alsLt := h.alsLt
      hdone := fun j o' hj hn he => by
        have := h.hdone j o' hj hn he
        simp only [mem]
        split
        · rfl
        · exact this
      doneSmall := fun j hj => by
        simp only [mem] at hj
        split at hj
        · rename_i hb; rw [natbeq hb]; exact ⟨o, ho, hs⟩
        · exact h.doneSmall j hj
      htmps := by
        intro k hk
        have hne : o.dst ≠ some k := by
          intro e
          have := hk i hin (by unfold dstOf; rw [ho]; exact e)
          rw [hself] at this; cases this
        have hold := h.htmps k (fun j hj hd => hmono j (hk j hj hd))
        unfold Vm.setDst at hset
        cases hd : o.dst with
        | none => rw [hd] at hset; simp only [Option.some.injEq] at hset; subst hset; exact hold
        | some d =>
          rw [hd] at hset
          simp only at hset
          split at hset
          · cases hset
            rw [tget_put, if_neg (fun e => hne (by rw [hd, e]))]
            exact hold
          · cases hset }

theorem runSmalls_inv : ∀ (l : List Nat) (d d' : DSt), (∀ i ∈ l, ∀ o, ops[i]? = some o → isEff o = false) → runSmalls E n ops l d = some d' → WR W0 E.base σ d.h d.next w → DI σ E.base d.next ops bs last effs d.done d.als d.t tmps rem →
    WR W0 E.base σ d'.h d'.next w ∧ DI σ E.base d'.next ops bs last effs d'.done d'.als d'.t tmps rem ∧ d.next.val ≤ d'.next.val ∧ (∀ g ∈ d'.als.map (·.2), g ∈ d.als.map (·.2) ∨ d.next.val ≤ g.val)
  | [], d, d', _, h, H, D => by
    simp only [runSmalls, Option.some.injEq] at h
    subst h
    exact ⟨H, D, Nat.le_refl _, fun g hg => .inl hg⟩
  | i :: l, d, d', hl, h, H, D => by
    have hl' : ∀ j ∈ l, ∀ o, ops[j]? = some o → isEff o = false := fun j hj => hl j (List.mem_cons_of_mem _ hj)
    simp only [runSmalls] at h
    split at h
    · exact runSmalls_inv l d d' hl' h H D
    · rename_i hmem
      split at h
      · rename_i o ho
        rw [nth_eq] at ho
        have hs := hl i (by simp) o ho
        split at h
        · split at h
          · split at h
            · rename_i cs e k ha
              split at h
              · rename_i t ht
                have D1 := D.made hmem ho hs ht
                have hle : d.next.val ≤ d.next.succ.val := by rw [Pos.val_succ]; omega
                have H1 := H.ghost (next' := d.next.succ) H.fresh hle (.row cs e)
                have D2 : DI σ E.base d.next.succ ops bs last effs (i :: d.done) ((i, d.next) :: d.als) t tmps rem :=
                  { D1 with
                    hals := fun j g hj hr => by
                      cases hj with
                      | head => exact ⟨H.fresh, H.nextp, by rw [Pos.val_succ]; omega⟩
                      | tail _ hm => obtain ⟨h1, h2, h3⟩ := D.hals j g hm hr; exact ⟨h1, h2, by omega⟩
                    alsNd := by
                      simp only [List.map_cons, List.nodup_cons]
                      refine ⟨fun hm => ?_, D.alsNd⟩
                      obtain ⟨⟨j, g⟩, h1, h2⟩ := List.mem_map.1 hm
                      have := D.alsLt j g h1
                      simp only at h2
                      rw [h2] at this
                      omega
                    alsLt := fun j g hj => by
                      cases hj with
                      | head => rw [Pos.val_succ]; omega
                      | tail _ hm => have := D.alsLt j g hm; omega }
                obtain ⟨g1, g2, g3, g4⟩ := runSmalls_inv l _ d' hl' h H1 D2
                refine ⟨g1, g2, Nat.le_trans hle g3, ?_⟩
                intro g hg
                rcases g4 g hg with h1 | h1
                · simp only [List.map_cons, List.mem_cons] at h1
                  rcases h1 with h1 | h1
                  · subst h1; exact .inr (Nat.le_refl _)
                  · exact .inl h1
                · exact .inr (Nat.le_trans hle h1)
              · cases h
            · cases h
          · split at h
            · split at h
              · rename_i t ht
                exact runSmalls_inv l { h := d.h, next := d.next, t := t, done := i :: d.done, als := d.als } d' hl' h H (D.made hmem ho hs ht)
              · cases h
            · cases h
          · cases h
        · split at h
          · rename_i t ht
            exact runSmalls_inv l { h := d.h, next := d.next, t := t, done := i :: d.done, als := d.als } d' hl' h H (D.made hmem ho hs ht)
          · cases h
      · cases h

theorem chain_pred (bs : List Nat) : ∀ (l : List Nat) (e x : Nat), chain bs (e :: l) = true → x ∈ l → ∃ y ∈ e :: l, Before bs y x
  | [], e, x, _, hx => by cases hx
  | y :: l, e, x, h, hx => by
    simp only [chain, Bool.and_eq_true] at h
    cases hx with
    | head => exact ⟨e, by simp, h.1⟩
    | tail _ hm =>
      obtain ⟨z, h1, h2⟩ := chain_pred bs l y x (by simp only [chain, Bool.and_eq_true]; exact h.2) hm
      exact ⟨z, List.mem_cons_of_mem _ h1, h2⟩
end
end Go.Vm
end
section
namespace Go.Vm

theorem mem_snd_inj {α β : Type} : ∀ {l : List (α × β)} {i i' : α} {g : β}, (l.map (·.2)).Nodup → (i, g) ∈ l → (i', g) ∈ l → i = i'
  | [], _, _, _, _, h, _ => by cases h
  | (a, b) :: l, i, i', g, hn, h1, h2 => by
    simp only [List.map_cons, List.nodup_cons] at hn
    cases h1 with
    | head =>
      cases h2 with
      | head => rfl
      | tail _ hm => exact absurd (List.mem_map.2 ⟨_, hm, rfl⟩) hn.1
    | tail _ hm1 =>
      cases h2 with
      | head => exact absurd (List.mem_map.2 ⟨_, hm1, rfl⟩) hn.1
      | tail _ hm => exact mem_snd_inj hn.2 hm1 hm
theorem alOf_mem {i : Nat} {g : Pos} : ∀ {l : List (Nat × Pos)}, alOf i l = some g → (i, g) ∈ l
  | [], h => by simp [alOf] at h
  | (j, q) :: l, h => by
    simp only [alOf] at h
    split at h
    · rename_i hb
      cases h
      rw [natbeq hb]; simp
    · exact List.mem_cons_of_mem _ (alOf_mem h)

section
variable {E : Env} {W0 : World} {ops : List Oper} {bs : List Nat} {last : Option Nat} {effs : List Nat}

/-- The frame in the region, with so much made. -/
def frameAt (f : Frame) (ops' : Array Oper) (K : List Item) (tmps : Array Value) (rem : List Nat) : Frame := { f with tmps := tmps, todo := .inRegion ops' rem :: K }

theorem frameAt_finish {f : Frame} {ops' : Array Oper} {K : List Item} {tmps : Array Value} {i : Nat} {r : List Nat} {o : Oper} (ho : ops'[i]? = some o) (u : Value) : (frameAt f ops' K tmps (i :: r)).finish u = frameAt f ops' K (setD o.dst tmps u) r := by
  unfold frameAt Frame.finish
  simp only [ho, Option.bind_some]
  cases o.dst <;> rfl

theorem DI.next {σ σ' : Sig} {base : Nat} {next : Pos} {done : List Nat} {als : List (Nat × Pos)} {t : T AV} {tmps : Array Value} {i : Nat} {r : List Nat} (h : DI σ base next ops bs last effs done als t tmps (i :: r)) (hsub : Sub σ σ') {o : Oper} {u : Value}
    (ho : ops[i]? = some o) (hs : isEff o = false) (hdone : mem i done = true) (hsz : ∀ d, o.dst = some d → d < tmps.size) (hv : ∀ d, o.dst = some d → RV σ' (tget t d) u)
    (hals : ∀ j g, (j, g) ∈ als → j ∈ r → ∀ v, σ' g v = none) : DI σ' base next ops bs last effs done als t (setD o.dst tmps u) r :=
  { nodup := (List.nodup_cons.1 h.nodup).2
    lt := fun j hj => h.lt j (List.mem_cons_of_mem _ hj)
    topo := h.topo.2
    hlast := fun e he j hj => h.hlast e he j (List.mem_cons_of_mem _ hj)
    effIn := fun j o' hj h1 h2 => h.effIn j o' (List.mem_cons_of_mem _ hj) h1 h2
    effRem := fun e he => by
      have := h.effRem e he
      cases this with
      | head =>
        obtain ⟨o', h1, h2⟩ := h.effIs i he
        rw [ho] at h1; cases h1
        rw [hs] at h2; cases h2
      | tail _ hm => exact hm
    effIs := h.effIs
    chained := h.chained
    hdone := fun j o' hj hn he => by
      by_cases hji : j = i
      · subst hji; exact hdone
      · exact h.hdone j o' hj (fun hm => by cases hm with | head => exact hji rfl | tail _ hm => exact hn hm) he
    doneSmall := h.doneSmall
    hals := fun j g hj hr => ⟨hals j g hj hr, (h.hals j g hj (List.mem_cons_of_mem _ hr)).2⟩
    alsNd := h.alsNd
    alsLt := h.alsLt
    htmps := by
      intro k hk
      cases hd : o.dst with
      | none =>
        simp only [setD]
        refine RV.mono hsub _ _ (h.htmps k (fun j hj hd2 => ?_))
        cases hj with
        | head => unfold dstOf at hd2; rw [ho] at hd2; simp only [Option.bind_some] at hd2; rw [hd] at hd2; cases hd2
        | tail _ hm => exact hk j hm hd2
      | some d =>
        simp only [setD]
        rw [getD_set _ _ _ _ (hsz d hd)]
        by_cases hdk : d = k
        · rw [if_pos hdk, ← hdk]; exact hv d hd
        · rw [if_neg hdk]
          refine RV.mono hsub _ _ (h.htmps k (fun j hj hd2 => ?_))
          cases hj with
          | head => unfold dstOf at hd2; rw [ho] at hd2; simp only [Option.bind_some] at hd2; rw [hd] at hd2; cases hd2; exact absurd rfl hdk
          | tail _ hm => exact hk j hm hd2 }

theorem drain {d : DSt} {n : Nat} {ops' : Array Oper} {K : List Item} {f : Frame} {CS : List Frame} (he : ops'.toList = ops) (hfm : f.mode = .run) (hck : ∀ i ∈ smalls bs last effs ops 0, checkSmall E n bs ops d i = true) (hdn0 : ∀ i ∈ smalls bs last effs ops 0, mem i d.done = true) :
    ∀ (rem : List Nat) (σ : Sig) (tmps : Array Value) (w : World), tmps.size = n → GL σ E.base → WR W0 E.base σ d.h d.next w → DI σ E.base d.next ops bs last effs d.done d.als d.t tmps rem →
    ∃ σ' tmps' w' rem', Steps E.P (lone (frameAt f ops' K tmps rem) CS w) (lone (frameAt f ops' K tmps' rem') CS w') ∧ tmps'.size = n ∧ Sub σ σ' ∧ New σ σ' d.next (d.als.map (·.2)) ∧ WR W0 E.base σ' d.h d.next w' ∧
      DI σ' E.base d.next ops bs last effs d.done d.als d.t tmps' rem' ∧ (rem' = [] ∨ ∃ e r l, rem' = e :: r ∧ effs = e :: l)
  | [], σ, tmps, w, hn, hg, H, D => ⟨σ, tmps, w, [], Steps.refl _ _, hn, Sub.refl σ, New.refl σ _ _, H, D, .inl rfl⟩
  | i :: r, σ, tmps, w, hn, hg, H, D => by
    have hlt := D.lt i (by simp)
    have ho : ops[i]? = some ops[i] := by simp [hlt]
    generalize ops[i] = o at ho
    have ho' : ops'[i]? = some o := by
      have : ops'[i]? = ops'.toList[i]? := by simp
      rw [this, he]; exact ho
    cases hs : isEff o with
    | true =>
      -- the next effect
      refine ⟨σ, tmps, w, i :: r, Steps.refl _ _, hn, Sub.refl σ, New.refl σ _ _, H, D, .inr ?_⟩
      have hin := D.effIn i o (by simp) ho hs
      cases heff : effs with
      | nil => rw [heff] at hin; cases hin
      | cons e l =>
        have hie : i = e := by
          rw [heff] at hin
          cases hin with
          | head => rfl
          | tail _ hm =>
            exfalso
            have hc := D.chained
            rw [heff] at hc
            obtain ⟨y, h1, h2⟩ := chain_pred bs l e i hc hm
            exact D.topo.1 y h2 (D.effRem y (by rw [heff]; exact h1))
        exact ⟨i, r, l, rfl, by rw [hie]⟩
    | false =>
      have hsm : i ∈ smalls bs last effs ops 0 := by
        have := smalls_mem bs last effs ops 0 i o ho hs (by
          rw [Nat.zero_add]
          refine noneOf_get bs i effs (fun e hee => ?_)
          cases hb : bitOf bs e i with
          | false => rfl
          | true => exact absurd (D.effRem e hee) (D.topo.1 e hb)) (by
          intro e hl
          rw [Nat.zero_add]
          cases hb : bitOf bs i e with
          | false => rfl
          | true => exact absurd hb (D.hlast e hl i (by simp)))
        rw [Nat.zero_add] at this
        exact this
      have hc := hck i hsm
      unfold checkSmall at hc
      rw [nth_eq, ho] at hc
      simp only at hc
      cases hsee : seesOk bs d.done ops i o with
      | false => rw [hsee] at hc; cases hc
      | true =>
        rw [hsee] at hc
        simp only at hc
        obtain ⟨s1, s2⟩ := sees_get hsee
        have known : ∀ k, (∀ j, dstOf ops j = some k → (Before bs j i ∧ i ≠ j) ∨ mem j d.done = false) → RV σ (tget d.t k) (tmps.getD k undef) := by
          intro k hk
          refine D.htmps k (fun j hj hd => ?_)
          rcases hk j hd with h1 | h1
          · exact absurd hj (D.topo.1 j h1.1)
          · exact h1
        have hev : ∀ x ∈ opsL o.op, EvOK σ E.base d.t (frameAt f ops' K tmps (i :: r)).eval x := by
          intro x hx
          rw [Frame.eval_eq]
          exact EvOK.of hg x (fun k hk => by subst hk; exact known k (s1 k hx))
        have hw : Region.wanted o (yielded ops' (frameAt f ops' K tmps (i :: r)).tmps) = guardOk ops d.t o :=
          guard_sound he (fun q b p dd h1 h2 h3 => known dd (s2 q b p dd h1 h2 h3))
        have hro : (frameAt f ops' K tmps (i :: r)).roundOf = none ∨ ∀ c, o.op ≠ .defer c := .inr (fun c hcc => by
          have : isEff o = true := by unfold isEff cls; rw [hcc]
          rw [hs] at this; cases this)
        -- once the step is made
        have go : ∀ (u : Value) (σ1 : Sig) (w1 : World), step E.P (lone (frameAt f ops' K tmps (i :: r)) CS w) = .next (lone ((frameAt f ops' K tmps (i :: r)).finish u) CS w1) → Sub σ σ1 → New σ σ1 d.next (d.als.map (·.2)) →
            WR W0 E.base σ1 d.h d.next w1 → (∀ dd, o.dst = some dd → dd < n ∧ RV σ1 (tget d.t dd) u) → (∀ j g, (j, g) ∈ d.als → j ∈ r → ∀ v, σ1 g v = none) → mem i d.done = true →
            ∃ σ' tmps' w' rem', Steps E.P (lone (frameAt f ops' K tmps (i :: r)) CS w) (lone (frameAt f ops' K tmps' rem') CS w') ∧ tmps'.size = n ∧ Sub σ σ' ∧ New σ σ' d.next (d.als.map (·.2)) ∧ WR W0 E.base σ' d.h d.next w' ∧
              DI σ' E.base d.next ops bs last effs d.done d.als d.t tmps' rem' ∧ (rem' = [] ∨ ∃ e r l, rem' = e :: r ∧ effs = e :: l) := by
          intro u σ1 w1 hst hsub hnew hW hv hal hdn
          rw [frameAt_finish ho'] at hst
          have D1 := D.next hsub ho hs hdn (fun dd h => by rw [hn]; exact (hv dd h).1) (fun dd h => (hv dd h).2) hal
          obtain ⟨σ', tmps', w', rem', g1, g2, g3, g4, g5, g6, g7⟩ := drain he hfm hck hdn0 r σ1 (setD o.dst tmps u) w1 (by rw [set_size]; exact hn) (hg.mono hsub) hW D1
          exact ⟨σ', tmps', w', rem', .head hst g1, g2, hsub.trans g3, hnew.trans g4 (Nat.le_refl _), g5, g6, g7⟩
        -- it has been made in the tree
        have hdn : mem i d.done = true := hdn0 i hsm
        have hfm' : (frameAt f ops' K tmps (i :: r)).mode = .run := hfm
        have htd : (frameAt f ops' K tmps (i :: r)).todo = .inRegion ops' (i :: r) :: K := rfl
        have oldals : ∀ j g, (j, g) ∈ d.als → j ∈ r → ∀ v, σ g v = none := fun j g h1 h2 => (D.hals j g h1 (List.mem_cons_of_mem _ h2)).1
        cases hgd : guardOk ops d.t o with
        | false =>
          rw [hgd] at hc hw
          simp only at hc
          refine go undef σ w (step_unwanted hfm' htd ho' hw) (Sub.refl σ) (New.refl σ _ _) H ?_ oldals hdn
          intro dd hd
          unfold holdsV at hc
          rw [hd] at hc
          simp only [Bool.and_eq_true] at hc
          rw [AV.eq_of_beq _ _ hc.2]
          exact ⟨by have := hc.1; rw [blt_eq] at this; simpa using this, undefR σ⟩
        | true =>
          rw [hgd] at hc hw
          simp only at hc
          cases hcl : cls o with
          | eff => rw [hcl] at hc; cases hc
          | small =>
            rw [hcl] at hc
            simp only at hc
            cases hop : opS E d.h d.t o with
            | none => rw [hop] at hc; cases hc
            | some v =>
              rw [hop] at hc
              simp only at hc
              obtain ⟨u, h1, h2⟩ := opS_sound H hev hop
              refine go u σ w (step_value hfm' htd ho' hw hro h1) (Sub.refl σ) (New.refl σ _ _) H ?_ oldals hdn
              intro dd hd
              unfold holdsV at hc
              rw [hd] at hc
              simp only [Bool.and_eq_true] at hc
              rw [AV.eq_of_beq _ _ hc.2]
              exact ⟨by have := hc.1; rw [blt_eq] at this; simpa using this, h2⟩
          | alloc =>
            rw [hcl] at hc
            simp only at hc
            cases hal : allocA E d.t o with
            | none => rw [hal] at hc; cases hc
            | some cek =>
              obtain ⟨cs, e, k⟩ := cek
              rw [hal] at hc
              cases hag : alOf i d.als with
              | none => rw [hag] at hc; cases hc
              | some g =>
                rw [hag] at hc
                simp only at hc
                cases hgo : d.h.get g with
                | none => rw [hgo] at hc; cases hc
                | some ob =>
                  rw [hgo] at hc
                  cases ob with
                  | row cs' e' =>
                    simp only [Bool.and_eq_true] at hc
                    have hcs := AV.eq_of_beqs _ _ hc.1
                    have hee := natbeq hc.2.1
                    subst hcs hee
                    have hgin := alOf_mem hag
                    obtain ⟨k1, k2, k3⟩ := D.hals i g hgin (by simp)
                    obtain ⟨C, h1, h2, h3⟩ := allocA_sound (w := w) hev hal
                    obtain ⟨h4, h5⟩ := H.newRow k1 k2 d.next (Nat.le_refl _) k3 h2 h3 d.h (fun _ _ => rfl) (fun ob hob => by rw [hgo] at hob; cases hob; rfl)
                    have hsub := put_sub σ g 0 ⟨w.heap.size, 0, 0, C.size⟩ (k1 0)
                    refine go _ _ _ (step_value hfm' htd ho' hw hro h1) hsub ?_ h4 ?_ ?_ hdn
                    · intro q hq _ hnot v
                      rw [put_other]
                      · exact hq v
                      · intro e2; subst e2; exact hnot (List.mem_map.2 ⟨_, hgin, rfl⟩)
                    · intro dd hd
                      have hc3 := hc.2.2
                      unfold holdsV at hc3
                      rw [hd] at hc3
                      simp only [Bool.and_eq_true] at hc3
                      rw [AV.eq_of_beq _ _ hc3.2]
                      exact ⟨by have := hc3.1; rw [blt_eq] at this; simpa using this, h5⟩
                    · intro j g' hj hjr v
                      rw [put_other]
                      · exact oldals j g' hj hjr v
                      · intro e2
                        subst e2
                        have := mem_snd_inj D.alsNd hgin hj
                        subst this
                        exact (List.nodup_cons.1 D.nodup).1 hjr
                  | arr a b c d e => cases hc
                  | map a => cases hc
                  | loop a => cases hc
                  | deferred a => cases hc
                  | iter a b c => cases hc
end
end Go.Vm
end
section
namespace Go.Vm

section
variable {E : Env} {W0 : World} {ops : List Oper} {bs : List Nat}

theorem runSmalls_done {n : Nat} : ∀ (l : List Nat) (d d' : DSt), runSmalls E n ops l d = some d' → (∀ i, mem i d.done = true → mem i d'.done = true) ∧ ∀ i ∈ l, mem i d'.done = true
  | [], d, d', h => by
    simp only [runSmalls, Option.some.injEq] at h
    subst h
    exact ⟨fun _ h => h, fun i hi => by cases hi⟩
  | i :: l, d, d', h => by
    have fin : ∀ d1 : DSt, (∀ j, mem j d.done = true → mem j d1.done = true) → mem i d1.done = true → runSmalls E n ops l d1 = some d' → (∀ i, mem i d.done = true → mem i d'.done = true) ∧ ∀ j ∈ i :: l, mem j d'.done = true := by
      intro d1 h1 h2 h3
      obtain ⟨g1, g2⟩ := runSmalls_done l d1 d' h3
      refine ⟨fun j hj => g1 j (h1 j hj), fun j hj => ?_⟩
      cases hj with
      | head => exact g1 i h2
      | tail _ hm => exact g2 j hm
    have cons1 : ∀ j, mem j d.done = true → mem j (i :: d.done) = true := by
      intro j hj
      simp only [mem]
      split
      · rfl
      · exact hj
    have cons2 : mem i (i :: d.done) = true := by simp [mem]
    simp only [runSmalls] at h
    split at h
    · rename_i hm
      exact fin d (fun _ h => h) hm h
    · split at h
      · split at h
        · split at h
          · split at h
            · split at h
              · exact fin _ cons1 cons2 h
              · cases h
            · cases h
          · split at h
            · split at h
              · exact fin { h := d.h, next := d.next, t := _, done := i :: d.done, als := d.als } cons1 cons2 h
              · cases h
            · cases h
          · cases h
        · split at h
          · exact fin { h := d.h, next := d.next, t := _, done := i :: d.done, als := d.als } cons1 cons2 h
          · cases h
      · cases h

theorem TopR.alsLt {σ : Sig} {base : Nat} {next : Pos} {fr : AFrame} {f : Frame} (h : TopR σ base next fr f) : ∀ g ∈ alsOf fr, g.val < next.val := by
  unfold TopR at h
  unfold alsOf
  intro g hg
  split at h
  · rename_i e
    rw [e] at hg
    obtain ⟨_, _, _, _, _, _, D⟩ := h
    obtain ⟨⟨i, g'⟩, h1, h2⟩ := List.mem_map.1 hg
    simp only at h2
    subst h2
    exact D.alsLt i g' h1
  · rename_i e
    rw [e] at hg
    obtain ⟨_, _, _, _, _, _, D, _⟩ := h
    obtain ⟨⟨i, g'⟩, h1, h2⟩ := List.mem_map.1 hg
    simp only at h2
    subst h2
    exact D.alsLt i g' h1
  · rename_i h1 h2
    split at hg
    · rename_i e; exact absurd e (h1 _ _ _ _ _ _ _)
    · rename_i e; exact absurd e (h2 _ _ _ _ _ _ _)
    · cases hg
theorem alsAll_lt {σ : Sig} {base : Nat} {next : Pos} : ∀ {cs : List AFrame} {l : List Frame}, CsR σ base next cs l → ∀ g ∈ alsAll cs, g.val < next.val
  | [], _, _, g, hg => by cases hg
  | a :: as, _, ⟨f, l', h1, h2, h3⟩, g, hg => by
    simp only [alsAll, List.mem_append] at hg
    rcases hg with hg | hg
    · exact h2.top.alsLt g hg
    · exact alsAll_lt h3 g hg

theorem draw_step (hE : EnvOK E) (hH : HookOK E W0) (CS : List Frame) (s s' : St) (m : Machine) (last : Option Nat) (todo done : List Nat) (als : List (Nat × Pos)) (k : List AItem) (hst : Stands E W0 CS s m) (hm : s.fr.mode = .run)
    (ht : s.fr.todo = .draw ops bs last todo done als :: k) (hs : drawStep E s ops bs last todo done als k = some s') : ∃ m', Steps E.P m m' ∧ Stands E W0 CS s' m' := by
  obtain ⟨σ, f, cs, w, rfl, A⟩ := hst
  have hfm := mode_run A.fr hm
  have htop := A.fr.top
  unfold TopR at htop
  rw [ht] at htop
  obtain ⟨ops', rem, K, e1, e2, hK, D⟩ := htop
  unfold drawStep drawA at hs
  split at hs
  · rename_i d hd
    split at hd
    · rename_i d1 hrs
      split at hd
      · rename_i hck
        cases hd
        have hsmall : ∀ i ∈ smalls bs last todo ops 0, ∀ o, ops[i]? = some o → isEff o = false := by
          intro i hi o ho
          obtain ⟨k, o', h1, h2, h3⟩ := smalls_small bs last todo ops 0 i hi
          have : i = k := by omega
          subst this
          rw [ho] at h2; cases h2; exact h3
        obtain ⟨H1, D1, hle, hals⟩ := runSmalls_inv (W0 := W0) (w := w) _ _ _ hsmall hrs A.wr D
        have hdn := (runSmalls_done _ _ _ hrs).2
        have hff : frameAt f ops' K f.tmps rem = f := by unfold frameAt; rw [← e1]
        obtain ⟨σ', tmps', w', rem', g1, g2, g3, g4, g5, g6, g7⟩ := drain (CS := cs ++ CS) (f := f) (K := K) e2 hfm (fun i hi => checkSmalls_get hck i hi) hdn rem σ f.tmps w A.fr.size A.gl H1 D1
        rw [hff] at g1
        -- the other frames
        have hnd := A.nd
        simp only [alsAll] at hnd
        have hals0 : alsOf s.fr = als.map (·.2) := by unfold alsOf; rw [ht]
        rw [hals0] at hnd
        obtain ⟨n1, n2, n3⟩ := List.nodup_append.1 hnd
        have hdis : ∀ g ∈ alsAll s.cs, g ∉ d.als.map (·.2) := by
          intro g hg hg2
          rcases hals g hg2 with h1 | h1
          · exact n3 g h1 g hg rfl
          · have := alsAll_lt A.cs g hg
            have h1' : s.next.val ≤ g.val := h1
            omega
        have hnew : New σ σ' s.next (d.als.map (·.2)) := fun g h1 h2 h3 => g4 g h1 (Nat.lt_of_lt_of_le h2 hle) h3
        have hcs := A.cs.mono g3 hnew hle hdis
        have hndAll : (d.als.map (·.2) ++ alsAll s.cs).Nodup := List.nodup_append.2 ⟨D1.alsNd, n2, fun a ha b hb hab => hdis b hb (hab ▸ ha)⟩
        have hround := A.fr.round.imp (fun h => h) (fun ⟨l, L, h1, h2, h3⟩ => (⟨l, L, h1, g3 _ _ _ h2, h3⟩ : ∃ l L, s.fr.roundOf = some l ∧ σ' l 0 = some L ∧ f.roundOf = some L.blk))
        have hfm' : (frameAt f ops' K tmps' rem').mode = .run := hfm
        split at hs
        · -- the region's end
          cases hs
          have hre : rem' = [] := by
            rcases g7 with h | ⟨e, r, l, _, h⟩
            · exact h
            · cases h
          subst hre
          have hstep : step E.P (lone (frameAt f ops' K tmps' []) (cs ++ CS) w') = .next (lone { frameAt f ops' K tmps' [] with todo := K } (cs ++ CS) w') := step_regEnd hfm' rfl
          have hKm := hK.mono g3
          refine ⟨_, Steps.trans g1 (.one hstep), σ', _, cs, w', rfl, g5, A.gl.mono g3, ⟨A.fr.fn, g2, TopR.of_plain hKm (g6.htmps.weak (fun k _ j hj => by cases hj)), A.fr.defers.mono g3, A.fr.mode.mono g3, A.fr.kind, hround⟩, hcs, ?_⟩
          simp only [alsAll]
          have h0 : alsOf { s.fr with tmps := d.t, todo := k } = [] := alsOf_plain (σ := σ') (f := { frameAt f ops' K tmps' [] with todo := K }) hKm
          rw [h0]; exact n2
        · rename_i i rest
          split at hs
          · rename_i o ho
            rw [nth_eq] at ho
            obtain ⟨r, hre⟩ : ∃ r, rem' = i :: r := by
              rcases g7 with h | ⟨e, r, l, h1, h2⟩
              · exfalso
                have := g6.effRem i (by simp)
                rw [h] at this; cases this
              · cases h2; exact ⟨r, h1⟩
            subst hre
            have heff : isEff o = true := by
              obtain ⟨o', h1, h2⟩ := g6.effIs i (by simp)
              rw [ho] at h1; cases h1; exact h2
            have hnotdone : mem i d.done = false := by
              cases hmm : mem i d.done with
              | false => rfl
              | true =>
                obtain ⟨o', h1, h2⟩ := g6.doneSmall i hmm
                rw [ho] at h1; cases h1
                rw [heff] at h2; cases h2
            have hnd' := List.nodup_cons.1 g6.nodup
            have hirest : i ∉ rest := by
              intro hin
              obtain ⟨y, h1, h2⟩ := chain_pred bs rest i i g6.chained hin
              exact g6.topo.1 y h2 (g6.effRem y h1)
            have DR : DI σ' E.base d.next ops bs (some i) rest d.done d.als d.t tmps' r :=
              { nodup := hnd'.2
                lt := fun j hj => g6.lt j (List.mem_cons_of_mem _ hj)
                topo := g6.topo.2
                hlast := fun e he j hj hb => by cases he; exact g6.topo.1 j hb (List.mem_cons_of_mem _ hj)
                effIn := fun j o' hj h1 h2 => by
                  have := g6.effIn j o' (List.mem_cons_of_mem _ hj) h1 h2
                  cases this with
                  | head => exact absurd hj hnd'.1
                  | tail _ hmm => exact hmm
                effRem := fun e he => by
                  have := g6.effRem e (List.mem_cons_of_mem _ he)
                  cases this with
                  | head => exact absurd he hirest
                  | tail _ hmm => exact hmm
                effIs := fun e he => g6.effIs e (List.mem_cons_of_mem _ he)
                chained := by
                  have := g6.chained
                  simp only [chain, Bool.and_eq_true] at this
                  exact this.2
                hdone := fun j o' hj hn he => by
                  refine g6.hdone j o' hj (fun hmm => ?_) he
                  cases hmm with
                  | head => rw [ho] at hj; cases hj; rw [heff] at he; cases he
                  | tail _ hm2 => exact hn hm2
                doneSmall := g6.doneSmall
                hals := fun j g hj hr => g6.hals j g hj (List.mem_cons_of_mem _ hr)
                alsNd := g6.alsNd
                alsLt := g6.alsLt
                htmps := g6.htmps.weak (fun k hk j hj hd => by
                  cases hj with
                  | head => exact hnotdone
                  | tail _ hmm => exact hk j hmm hd) }
            have hoo : ops'[i]? = some o := by
              have : ops'[i]? = ops'.toList[i]? := by simp
              rw [this, e2]; exact ho
            split at hs
            · rename_i hsee
              obtain ⟨s1, s2⟩ := sees_get hsee
              have known : ∀ k, (∀ j, dstOf ops j = some k → (Before bs j i ∧ i ≠ j) ∨ mem j d.done = false) → RV σ' (tget d.t k) (tmps'.getD k undef) := by
                intro k hk
                refine g6.htmps k (fun j hj hd => ?_)
                rcases hk j hd with h1 | h1
                · exact absurd hj (g6.topo.1 j h1.1)
                · exact h1
              have hev : ∀ x ∈ opsL o.op, EvOK σ' E.base d.t (frameAt f ops' K tmps' (i :: r)).eval x := by
                intro x hx
                rw [Frame.eval_eq]
                exact EvOK.of (A.gl.mono g3) x (fun k hk => by subst hk; exact known k (s1 k hx))
              have hw : Region.wanted o (yielded ops' (frameAt f ops' K tmps' (i :: r)).tmps) = guardOk ops d.t o := guard_sound e2 (fun q b p dd h1 h2 h3 => known dd (s2 q b p dd h1 h2 h3))
              split at hs
              · rename_i hg
                rw [hg] at hw
                split at hs
                · rename_i res hop
                  have hres := opE_sound hE g5 hev hop
                  have A1 : At E W0 σ' { s with fr := { s.fr with tmps := d.t, todo := .drawIn ops bs i rest d.done d.als :: k }, h := d.h, next := d.next } (frameAt f ops' K tmps' (i :: r)) cs w' := by
                    refine ⟨g5, A.gl.mono g3, ⟨A.fr.fn, g2, ?_, A.fr.defers.mono g3, A.fr.mode.mono g3, A.fr.kind, hround⟩, hcs, ?_⟩
                    · unfold TopR
                      exact ⟨ops', r, K, rfl, e2, hK.mono g3, DR, hnotdone, o, ho, heff⟩
                    · simp only [alsAll, alsOf]; exact hndAll
                  obtain ⟨m', k1, k2⟩ := apply_sound (CS := CS) hH A1 hm (ops' := ops') (i := i) (rest := r) (K := K) (o := o) rfl hoo hw (opE_defer hop) hres hs
                  exact ⟨m', Steps.trans g1 k1, k2⟩
                · cases hs
              · rename_i hg
                rw [hg] at hw
                split at hs
                · rename_i t hset
                  cases hs
                  have hstep : step E.P (lone (frameAt f ops' K tmps' (i :: r)) (cs ++ CS) w') = .next (lone ((frameAt f ops' K tmps' (i :: r)).finish undef) (cs ++ CS) w') := step_unwanted hfm' rfl hoo hw
                  rw [frameAt_finish hoo] at hstep
                  have hT := DR.htmps.setDst g2 hset (undefR σ')
                  refine ⟨_, Steps.trans g1 (.one hstep), σ', _, cs, w', rfl, g5, A.gl.mono g3, ⟨A.fr.fn, ?_, ?_, A.fr.defers.mono g3, A.fr.mode.mono g3, A.fr.kind, hround⟩, hcs, ?_⟩
                  · show (setD o.dst tmps' undef).size = s.fr.n
                    rw [set_size]; exact g2
                  · unfold TopR
                    exact ⟨ops', r, K, rfl, e2, hK.mono g3, { DR with htmps := hT.weak (fun k hk => .inl hk) }⟩
                  · simp only [alsAll, alsOf]; exact hndAll
                · cases hs
            · cases hs
          · cases hs
      · cases hd
    · cases hd
  · cases hs

/-- Drawn regions are sound. -/
theorem draw_ok (hE : EnvOK E) (hH : HookOK E W0) (hmix : E.P.follows .mixedOrders = true) (CS : List Frame) : DrawOK E W0 CS :=
  ⟨fun s s' m ops bs last todo done als k h1 h2 h3 h4 => draw_step hE hH CS s s' m last todo done als k h1 h2 h3 h4, fun s m id ops k bs es h1 h2 h3 h4 => draw_start hmix s m id ops k bs es h1 h2 h3 h4⟩
end
end Go.Vm
end
section
namespace Go.Vm

section
variable {E : Env} {W0 : World} {CS : List Frame}

/-- So many steps. -/
theorem run_sound (hE : EnvOK E) (hH : HookOK E W0) (hD : DrawOK E W0 CS) : ∀ (n : Nat) (s s' : St) (m : Machine), Stands E W0 CS s m → runA E n s = some (.on s') → ∃ m', Steps E.P m m' ∧ Stands E W0 CS s' m'
  | 0, s, s', m, h, hr => by
    simp only [runA, Option.some.injEq, Out.on.injEq] at hr
    subst hr
    exact ⟨m, Steps.refl _ _, h⟩
  | n + 1, s, s', m, h, hr => by
    simp only [runA] at hr
    split at hr
    · rename_i s1 h1
      obtain ⟨m1, g1, g2⟩ := sim hE hH hD h h1
      obtain ⟨m', g3, g4⟩ := run_sound hE hH hD n s1 s' m1 g2 hr
      exact ⟨m', Steps.trans g1 g3, g4⟩
    · rename_i hne
      exact absurd hr (hne s')

/-- The end of a call. -/
theorem done_sound {s s' : St} {v : AV} {m : Machine} (hm : Stands E W0 CS s m) (hs : stepA E s = some (.done v s')) (hdf : s.fr.deferred = false) :
    ∃ σ f w u, m = lone f CS w ∧ f.leaving E.P w (.returned u) ∧ f.fn = s.fr.fn ∧ RV σ v u ∧ WR W0 E.base σ s.h s.next w := by
  obtain ⟨σ, f, cs, w, rfl, A⟩ := hm
  have onA_no : ∀ (x : Option St), onA x ≠ some (.done v s') := by
    intro x hx
    cases x with
    | none => cases hx
    | some y => cases hx
  unfold stepA at hs
  split at hs
  · exfalso
    split at hs
    · exact onA_no _ hs
    · split at hs
      · split at hs <;> first
          | exact onA_no _ hs
          | (cases hs; done)
          | (split at hs <;> first | exact onA_no _ hs | (cases hs; done) | (split at hs <;> first | exact onA_no _ hs | (cases hs; done)))
      · cases hs
      · cases hs
      · cases hs
      · split at hs
        · split at hs
          · cases hs
          · exact onA_no _ hs
        · cases hs
      · split at hs
        · split at hs
          · cases hs
          · split at hs
            · split at hs
              · split at hs
                · split at hs
                  · exact onA_no _ hs
                  · cases hs
                · split at hs
                  · cases hs
                  · cases hs
              · cases hs
            · cases hs
        · cases hs
      · cases hs
      · cases hs
      · split at hs
        · split at hs
          · split at hs
            · cases hs
            · cases hs
          · cases hs
        · cases hs
      · split at hs
        · split at hs
          · cases hs
          · cases hs
        · cases hs
  · rename_i hmode
    split at hs
    · exfalso
      split at hs
      · cases hs
      · cases hs
    · exfalso
      split at hs
      · split at hs
        · cases hs
        · cases hs
      · cases hs
    · rename_i hd
      have hdef := A.fr.defers
      rw [hd] at hdef
      simp only [DsR] at hdef
      split at hs
      · exfalso
        split at hs
        · cases hs
        · cases hs
      · rename_i hnp
        have hret : f.mode = .returning := by
          have hmo := A.fr.mode
          cases hmm : s.fr.mode with
          | run => exact absurd hmm hmode
          | returning => rw [hmm] at hmo; exact hmo
          | panicking ch => exact absurd hmm (hnp ch)
        split at hs
        · cases hs
        · rename_i fn hfn
          split at hs
          · rename_i vs hvs
            split at hvs
            · cases hvs
            · rename_i hdt
              obtain ⟨u, hrun, hru⟩ := results_sound (P := E.P) A.wr A.fr.top hdt hvs
              have hfn' : E.P.funcs[f.fn]? = some fn := by rw [A.fr.fn]; exact hfn
              split at hs
              · rename_i hcs
                cases hs
                have hc := A.cs
                rw [hcs] at hc
                simp only [CsR] at hc
                subst hc
                exact ⟨σ, f, w, u, rfl, ⟨hret, hdef, by rw [A.fr.kind, hdf], fn, hfn', hrun⟩, A.fr.fn, hru, A.wr⟩
              · exfalso
                split at hs
                · split at hs
                  · cases hs
                  · cases hs
                · split at hs
                  · cases hs
                  · cases hs
          · cases hs
end
end Go.Vm
end
section
namespace Go.Vm

/-- Where the old groups lie. -/
def sig0 (base : Nat) (W : World) : Sig := fun g v => if v = 0 ∧ g.val ≤ base then some ⟨g.val - 1, 0, 0, match W.heap[g.val - 1]? with | some (.cells c _ _) => c.size | _ => 0⟩ else none
theorem sig0_inv {base : Nat} {W : World} {g : Pos} {v : Nat} {L : Loc} (h : sig0 base W g v = some L) : v = 0 ∧ g.val ≤ base ∧ L.blk = g.val - 1 ∧ L.off = 0 ∧ L.c0 = 0 ∧ L.lim = (match W.heap[g.val - 1]? with | some (.cells c _ _) => c.size | _ => 0) := by
  unfold sig0 at h
  split at h
  · rename_i hh
    cases h
    exact ⟨hh.1, hh.2, rfl, rfl, rfl, rfl⟩
  · cases h
theorem sig0_get {base : Nat} {W : World} {i : Nat} (h : i < base) : ∃ L, sig0 base W (nk i) 0 = some L ∧ L.blk = i ∧ L.off = 0 ∧ L.c0 = 0 := by
  refine ⟨⟨i, 0, 0, match W.heap[i]? with | some (.cells c _ _) => c.size | _ => 0⟩, ?_, rfl, rfl, rfl⟩
  unfold sig0
  have hv : (nk i).val = i + 1 := nk_val i
  have hv1 : (nk i).val - 1 = i := by omega
  rw [if_pos ⟨rfl, by omega⟩, hv1]

/-- What a world holds of the old groups, as the tree has it. -/
def Old (base : Nat) (W : World) (h : T Obj) : Prop := ∀ g o, h.get g = some o → g.val ≤ base ∧ ∃ cs e C, o = .row cs e ∧ W.heap[g.val - 1]? = some (.cells C e (0, 0)) ∧ RVs (sig0 base W) cs C.toList

theorem init_wr {base : Nat} {W : World} {h : T Obj} {next : Pos} (hb : base ≤ W.heap.size) (hn : base < next.val) (ho : Old base W h) : WR W base (sig0 base W) h next W := by
  refine ⟨rfl, rfl, rfl, Nat.le_refl _, fun _ _ => rfl, hn, ?_, ?_, ?_⟩
  · intro g v L e
    obtain ⟨_, h2, h3, _⟩ := sig0_inv e
    have := g.val_pos
    exact ⟨by omega, fun h => by omega, by omega⟩
  · intro g v L g' v' L' e e' hbk
    obtain ⟨_, _, h3, h4, h5, _⟩ := sig0_inv e
    obtain ⟨_, _, k3, k4, k5, _⟩ := sig0_inv e'
    have h1 := g.val_pos
    have h2 := g'.val_pos
    exact ⟨Pos.val_inj (by omega), by omega⟩
  · intro g v L o e eo
    obtain ⟨h1, h2, h3, h4, h5, h6⟩ := sig0_inv e
    obtain ⟨_, cs, el, C, k1, k2, k3⟩ := ho g o eo
    subst k1
    rw [k2] at h6
    exact ⟨h1, h4, h5, C, by rw [h3]; exact k2, h6.symm, k3⟩

/-- The beginning of a call. -/
theorem init_stands {E : Env} {W : World} {CS : List Frame} {h : T Obj} {next : Pos} {f : FuncId} {args : List AV} {us : List Value} {fr : AFrame} (hb : E.base ≤ W.heap.size) (hn : E.base < next.val) (ho : Old E.base W h)
    (ha : RVs (sig0 E.base W) args us) (he : enterA E.P f args false = some fr) : Stands E W CS { fr, cs := [], h, next } (lone (Frame.enter E.P f us.toArray .normal) CS W) := by
  obtain ⟨g1, g2, g3⟩ := enter_sound (base := E.base) (next := next) ha he
  refine ⟨sig0 E.base W, _, [], W, rfl, init_wr hb hn ho, fun i hi => ?_, g1, rfl, ?_⟩
  · exact sig0_get hi
  · simp only [alsAll]
    rw [g2]; exact List.nodup_nil

/-- A whole call: the tree's run ends, and so does the program's. -/
theorem call_sound {E : Env} {W : World} {CS : List Frame} {h : T Obj} {next : Pos} {f : FuncId} {args : List AV} {us : List Value} {fr : AFrame} {n : Nat} {s s' : St} {v : AV} (hE : EnvOK E) (hH : HookOK E W) (hmix : E.P.follows .mixedOrders = true)
    (hb : E.base ≤ W.heap.size) (hn : E.base < next.val) (ho : Old E.base W h) (ha : RVs (sig0 E.base W) args us) (he : enterA E.P f args false = some fr)
    (hr : runA E n { fr, cs := [], h, next } = some (.on s)) (hd : stepA E s = some (.done v s')) (hdf : s.fr.deferred = false) :
    ∃ σ g w u, Steps E.P (lone (Frame.enter E.P f us.toArray .normal) CS W) (lone g CS w) ∧ g.leaving E.P w (.returned u) ∧ g.fn = s.fr.fn ∧ RV σ v u ∧ WR W E.base σ s.h s.next w := by
  obtain ⟨m', g1, g2⟩ := run_sound hE hH (draw_ok hE hH hmix CS) n _ s _ (init_stands hb hn ho ha he) hr
  obtain ⟨σ, g, w, u, rfl, k1, k2, k3, k4⟩ := done_sound g2 hd hdf
  exact ⟨σ, g, w, u, g1, k1, k2, k3, k4⟩

/-- A part of the memory is enough. -/
theorem stands_less {E : Env} {W0 : World} {CS : List Frame} {s : St} {m : Machine} (hs : Stands E W0 CS s m) (h' : T Obj) (hh : ∀ g o, h'.get g = some o → s.h.get g = some o) : Stands E W0 CS { s with h := h' } m := by
  obtain ⟨σ, f, cs, w, rfl, A⟩ := hs
  exact ⟨σ, f, cs, w, rfl, ⟨⟨A.wr.os, A.wr.tape, A.wr.output, A.wr.size, A.wr.old, A.wr.nextp, A.wr.loc, A.wr.inj, fun g v L o e eo => A.wr.obj g v L o e (hh g o eo)⟩, A.gl, A.fr, A.cs, A.nd⟩⟩
end Go.Vm
end
section
namespace Go.Vm

section
variable {E : Env} {W0 : World} {CS : List Frame}

/-- One operation of a region, which gives a value: whichever, of those that a look allows. -/
theorem one_op (hH : HookOK E W0) {s : St} {m : Machine} (hst : Stands E W0 CS s m) (hm : s.fr.mode = .run) {ops rest : List Oper} {o : Oper} {k : List AItem} (ht : s.fr.todo = .reg ops (o :: rest) :: k) (hg : o.guard = none)
    (hnd : ∀ c, o.op ≠ .defer c) (Q : AV → T Obj → Pos → Prop)
    (hop : ∀ σ w (ρ : Operand → Value), WR W0 E.base σ s.h s.next w → (∀ x, EvOK σ E.base s.fr.tmps ρ x) → ∃ v h' next', Q v h' next' ∧ ResR W0 E.base σ s.next w (.val v h' next') ((execOp ρ o).run E.P w)) :
    ∃ v h' next', Q v h' next' ∧ ∀ t', setDst s.fr.n s.fr.tmps o.dst v = some t' → ∃ m', Steps E.P m m' ∧ Stands E W0 CS { s with fr := { s.fr with tmps := t', todo := .reg ops rest :: k }, h := h', next := next' } m' := by
  obtain ⟨σ, f, cs, w, hmm, A⟩ := hst
  subst hmm
  obtain ⟨p1, p2⟩ := A.fr.top.plain (fun a k' e => by rw [ht] at e; cases e; rfl)
  rw [ht] at p1
  obtain ⟨it, K, e1, ⟨ops', todo, e2, hreg⟩, hK⟩ := p1
  subst e2
  obtain ⟨i, todo', e3, ho, hreg'⟩ := regR_cons hreg
  subst e3
  have hw := wanted_plain (σ := σ) hreg.1 p2 o
  have hgo : guardOk ops s.fr.tmps o = true := by unfold guardOk; rw [hg]
  rw [hgo] at hw
  have hev : ∀ x, EvOK σ E.base s.fr.tmps f.eval x := by
    intro x
    rw [Frame.eval_eq]
    exact EvOK.of A.gl x (fun k _ => p2 k trivial)
  obtain ⟨v, h', next', hq, hres⟩ := hop σ w f.eval A.wr hev
  refine ⟨v, h', next', hq, fun t' hset => ?_⟩
  have hfin : applyA E s (.val v h' next') = some { s with fr := { s.fr with tmps := t', todo := .reg ops rest :: k }, h := h', next := next' } := by
    simp only [applyA, finishA, ht, hset]
  exact apply_sound (CS := CS) hH A hm e1 ho hw (fun c hc => absurd hc (hnd c)) hres hfin

/-- 'range' over a map: a new iterator. -/
theorem range_op (hH : HookOK E W0) {s : St} {m : Machine} (hst : Stands E W0 CS s m) (hm : s.fr.mode = .run) {ops rest : List Oper} {o : Oper} {k : List AItem} (ht : s.fr.todo = .reg ops (o :: rest) :: k) (hg : o.guard = none)
    {ty kt et : TypeId} {x : Operand} (ho : o.op = .range ty x) (hu : E.P.underlying ty = some (.map kt et)) {mg : Pos} {es : List (AV × AV)} (hx : evalA E.base s.fr.tmps x = some (.map mg)) (hes : s.h.get mg = some (.map es)) (hne : mg ≠ s.next)
    {t' : T AV} (hset : setDst s.fr.n s.fr.tmps o.dst (.ptr s.next 0 0) = some t') :
    ∃ m', Steps E.P m m' ∧ Stands E W0 CS { s with fr := { s.fr with tmps := t', todo := .reg ops rest :: k }, h := s.h.set (.iter mg [] (len es)) s.next, next := s.next.succ } m' := by
  obtain ⟨v, h', next', hq, hres⟩ := one_op hH hst hm ht hg (fun c e => by rw [ho] at e; cases e) (fun v h' n' => v = .ptr s.next 0 0 ∧ h' = s.h.set (.iter mg [] (len es)) s.next ∧ n' = s.next.succ) (by
    intro σ w ρ H hev
    refine ⟨_, _, _, ⟨rfl, rfl, rfl⟩, ?_⟩
    have hxv := hev x _ hx
    simp only [RV] at hxv
    obtain ⟨L, hL, hxe⟩ := hxv
    obtain ⟨_, l, ck, h1, h2, h3, h4, h5⟩ := H.obj _ _ _ _ hL hes
    have hlen : l.size = len es := by
      have : ∀ (es : List (AV × AV)) (l : List MapEntry), MR σ es l → l.length = len es := by
        intro es
        induction es with
        | nil => intro l h; simp only [MR] at h; subst h; rfl
        | cons a es ih => intro l h; obtain ⟨e, l', rfl, _, _, h⟩ := h; show l'.length + 1 = len es + 1; rw [ih l' h]
      simpa using this es l.toList h2
    have hrun : (Instr.range ty (ρ x)).run E.P w = .ok (.pointer (some ⟨w.heap.size, 0, none⟩)) (w.alloc (.mapIter (some L.blk) ck #[] ck)) := by
      rw [hxe]; exact run_range_map w ty kt et L.blk l ck hu h1
    have hsub := put_sub σ s.next 0 ⟨w.heap.size, 0, 0, 0⟩ (H.fresh 0)
    have := ResR.of_val (W0 := W0) (base := E.base) (σ := σ) (next := s.next) (w := w) (P := E.P) (s := Instr.range ty (ρ x)) (res := .val (.ptr s.next 0 0) (s.h.set (.iter mg [] (len es)) s.next) s.next.succ)
      ⟨_, _, _, rfl, _, _, _, hrun, hsub, put_new (Nat.le_refl _), H.alloc H.fresh H.nextp _ (by rw [Pos.val_succ]; omega) (by rw [Pos.val_succ]; omega) _ _ rfl _ (fun q hq => by rw [T.get_set, if_neg (Ne.symm hq)])
        (fun o' ho' => by
          rw [T.get_set, if_pos rfl] at ho'
          cases ho'
          exact ⟨rfl, rfl, rfl, L, #[], by rw [put_other _ _ _ _ _ _ (Ne.symm hne)]; exact hL, by rw [← hlen, ← h5], rfl⟩),
        by simp only [RV]; exact ⟨_, put_same _ _ _ _, Nat.le_refl _, rfl⟩, by rw [Pos.val_succ]; omega⟩
    simpa [execOp, ho] using this)
  obtain ⟨rfl, rfl, rfl⟩ := hq
  exact hres t' hset

theorem MR.at {σ : Sig} : ∀ {es : List (AV × AV)} {l : List MapEntry} (i : Nat) (e : MapEntry), MR σ es l → l[i]? = some e → ∃ x y, es[i]? = some (x, y) ∧ RV σ x e.key ∧ RV σ y e.val
  | [], l, i, e, h, he => by simp only [MR] at h; subst h; simp at he
  | (x, y) :: es, l, 0, e, h, he => by
    obtain ⟨e', l', rfl, h1, h2, _⟩ := h
    simp at he; subst he
    exact ⟨x, y, rfl, h1, h2⟩
  | _ :: es, l, i + 1, e, h, he => by
    obtain ⟨e', l', rfl, _, _, h3⟩ := h
    exact MR.at i e h3 (by simpa using he)
theorem MR.length {σ : Sig} : ∀ {es : List (AV × AV)} {l : List MapEntry}, MR σ es l → l.length = es.length
  | [], l, h => by simp only [MR] at h; subst h; rfl
  | _ :: es, l, h => by obtain ⟨e, l', rfl, _, _, h⟩ := h; simp [MR.length h]

/-- 'next': over, or an entry that has not been seen. -/
theorem next_op (hH : HookOK E W0) {s : St} {m : Machine} (hst : Stands E W0 CS s m) (hm : s.fr.mode = .run) {ops rest : List Oper} {o : Oper} {k : List AItem} (ht : s.fr.todo = .reg ops (o :: rest) :: k) (hg : o.guard = none)
    {x : Operand} (ho : o.op = .next x false) {gi mg : Pos} {es : List (AV × AV)} {seen : List Nat} (hx : evalA E.base s.fr.tmps x = some (.ptr gi 0 0)) (hgi : s.h.get gi = some (.iter mg seen es.length)) (hes : s.h.get mg = some (.map es)) (hold : isOld E.base gi = false) (hne : gi ≠ mg)
    (hd : ∃ d, o.dst = some d ∧ d < s.fr.n) :
    ∃ v h', ((v = .tuple [.bool false] ∧ h' = s.h ∧ ∀ i, i < es.length → i ∈ seen) ∨ ∃ i kv vv, i < es.length ∧ i ∉ seen ∧ es[i]? = some (kv, vv) ∧ v = .tuple [.bool true, kv, vv] ∧ h' = s.h.set (.iter mg (seen ++ [i]) es.length) gi) ∧
      ∀ t', setDst s.fr.n s.fr.tmps o.dst v = some t' → ∃ m', Steps E.P m m' ∧ Stands E W0 CS { s with fr := { s.fr with tmps := t', todo := .reg ops rest :: k }, h := h' } m' := by
  obtain ⟨v, h', next', ⟨hn, hq⟩, hres⟩ := one_op hH hst hm ht hg (fun c e => by rw [ho] at e; cases e) (fun v h' n' => n' = s.next ∧ ((v = .tuple [.bool false] ∧ h' = s.h ∧ ∀ i, i < es.length → i ∈ seen) ∨ ∃ i kv vv, i < es.length ∧ i ∉ seen ∧ es[i]? = some (kv, vv) ∧ v = .tuple [.bool true, kv, vv] ∧ h' = s.h.set (.iter mg (seen ++ [i]) es.length) gi)) (by
    intro σ w ρ H hev
    have hxv := hev x _ hx
    simp only [RV] at hxv
    obtain ⟨L, hL, hL0, hxe⟩ := hxv
    obtain ⟨_, ho1, ho2, Lm, sn, hLm, hb, hsn⟩ := H.obj _ _ _ _ hL hgi
    obtain ⟨_, l, ck, h1, h2, h3, h4, h5⟩ := H.obj _ _ _ _ hLm hes
    have hlen : l.size = es.length := by have := MR.length h2; simpa using this
    have haddr : ρ x = .pointer (some ⟨L.blk, 0, none⟩) := by
      rw [hxe]; simp only [Loc.addr, ho1, ho2]
    have hbornlt : ∀ e ∈ l.toList, e.born < es.length := by
      intro e he
      have : e.born ∈ l.toList.map (·.born) := List.mem_map.2 ⟨e, he, rfl⟩
      rw [h4, List.mem_range] at this
      omega
    have hborn : ∀ (i : Nat) (e : MapEntry), l.toList[i]? = some e → e.born = i := by
      intro i e he
      have h6 : (l.toList.map (·.born))[i]? = some e.born := by rw [List.getElem?_map, he]; rfl
      rw [h4] at h6
      have h7 := List.getElem?_eq_some_iff.1 h6
      obtain ⟨h8, h9⟩ := h7
      simp at h9
      exact h9.symm
    rcases run_next_at (P := E.P) w o.type L.blk Lm.blk es.length es.length sn l ck hb h1 hbornlt (Nat.le_refl _) with ⟨h0, hrun⟩ | ⟨e, he, w1, hal, hrun⟩
    · refine ⟨.tuple [.bool false], s.h, s.next, ⟨rfl, .inl ⟨rfl, rfl, fun i hi => ?_⟩⟩, ?_⟩
      · have hi' : i < l.toList.length := by simp; omega
        have hall := all_seen l sn h0 l.toList[i] (List.getElem_mem hi')
        rw [hborn i _ (List.getElem?_eq_getElem hi')] at hall
        rw [← hsn]
        simpa using hall
      · have := ResR.of_val (W0 := W0) (base := E.base) (σ := σ) (next := s.next) (w := w) (P := E.P) (s := Instr.next (ρ x) false o.type) (res := .val (.tuple [.bool false]) s.h s.next)
          ⟨_, _, _, rfl, ValR.same (u := .tuple #[.bool false]) H (by rw [haddr]; exact hrun) (by simp only [RV]; exact ⟨_, rfl, RVs.cons (by simp only [RV]) RVs.nil⟩)⟩
        simpa [execOp, ho] using this
    · obtain ⟨hem, hes'⟩ := mem_left he
      obtain ⟨i, hi⟩ := List.getElem?_of_mem hem
      have hbi := hborn i e hi
      obtain ⟨kv, vv, g1, g2, g3⟩ := MR.at i e h2 hi
      refine ⟨.tuple [.bool true, kv, vv], s.h.set (.iter mg (seen ++ [i]) es.length) gi, s.next, ⟨rfl, .inr ⟨i, kv, vv, ?_, ?_, g1, rfl, rfl⟩⟩, ?_⟩
      · exact (List.getElem?_eq_some_iff.1 g1).1
      · rw [hbi] at hes'
        rw [← hsn]
        intro hc
        have : sn.contains i = true := by simpa using hc
        rw [this] at hes'; cases hes'
      · have hw1 : WR W0 E.base σ s.h s.next w1 := by
          rcases hal with rfl | rfl
          · exact H
          · exact H.drew
        have hck : ck = es.length := by rw [h5, hlen]
        have hturn : WR W0 E.base σ (s.h.set (.iter mg (seen ++ [i]) es.length) gi) s.next (setB w1 L.blk (.mapIter (some Lm.blk) es.length (sn.push e.born) ck)) := by
          refine hw1.turn hL (old_false hold) _ _ ?_
          intro v' L' hL'
          obtain ⟨q1, q2, q3, Lm', sn', q4, q5, q6⟩ := hw1.obj _ _ _ _ hL' hgi
          subst q1
          rw [hL] at hL'
          cases hL'
          rw [if_pos rfl]
          exact ⟨rfl, q2, q3, Lm, _, hLm, by rw [hck], by rw [Array.toList_push, hsn, hbi]⟩
        have := ResR.of_val (W0 := W0) (base := E.base) (σ := σ) (next := s.next) (w := w) (P := E.P) (s := Instr.next (ρ x) false o.type) (res := .val (.tuple [.bool true, kv, vv]) (s.h.set (.iter mg (seen ++ [i]) es.length) gi) s.next)
          ⟨_, _, _, rfl, σ, .tuple #[.bool true, e.key, e.val], _, by rw [haddr]; exact hrun, Sub.refl σ, New.refl σ _ _, hturn, by simp only [RV]; exact ⟨_, rfl, RVs.cons (by simp only [RV]) (RVs.cons g2 (RVs.cons g3 RVs.nil))⟩, Nat.le_refl _⟩
        simpa [execOp, ho] using this)
  subst hn
  exact ⟨v, h', hq, hres⟩

/-- 'entry': the entry of the last step. -/
theorem entry_op (hH : HookOK E W0) {s : St} {m : Machine} (hst : Stands E W0 CS s m) (hm : s.fr.mode = .run) {ops rest : List Oper} {o : Oper} {k : List AItem} (ht : s.fr.todo = .reg ops (o :: rest) :: k) (hg : o.guard = none)
    {x : Operand} (ho : o.op = .entry x) {gi mg : Pos} {es : List (AV × AV)} {seen : List Nat} {i : Nat} {kv vv : AV} (hx : evalA E.base s.fr.tmps x = some (.ptr gi 0 0)) (hgi : s.h.get gi = some (.iter mg (seen ++ [i]) es.length)) (hes : s.h.get mg = some (.map es)) (hi : es[i]? = some (kv, vv))
    {t' : T AV} (hset : setDst s.fr.n s.fr.tmps o.dst (.tuple [kv, vv]) = some t') :
    ∃ m', Steps E.P m m' ∧ Stands E W0 CS { s with fr := { s.fr with tmps := t', todo := .reg ops rest :: k } } m' := by
  obtain ⟨v, h', next', ⟨rfl, rfl, rfl⟩, hres⟩ := one_op hH hst hm ht hg (fun c e => by rw [ho] at e; cases e) (fun v h' n' => v = .tuple [kv, vv] ∧ h' = s.h ∧ n' = s.next) (by
    intro σ w ρ H hev
    refine ⟨_, _, _, ⟨rfl, rfl, rfl⟩, ?_⟩
    have hxv := hev x _ hx
    simp only [RV] at hxv
    obtain ⟨L, hL, hL0, hxe⟩ := hxv
    obtain ⟨_, ho1, ho2, Lm, sn, hLm, hb, hsn⟩ := H.obj _ _ _ _ hL hgi
    obtain ⟨_, l, ck, h1, h2, h3, h4, h5⟩ := H.obj _ _ _ _ hLm hes
    have hlen : l.size = es.length := by have := MR.length h2; simpa using this
    have hil : i < l.toList.length := by simp; have := (List.getElem?_eq_some_iff.1 hi).1; omega
    have hel := List.getElem?_eq_getElem hil
    generalize l.toList[i] = e at hel
    have hbi : e.born = i := by
      have h6 : (l.toList.map (·.born))[i]? = some e.born := by rw [List.getElem?_map, hel]; rfl
      rw [h4] at h6
      obtain ⟨h8, h9⟩ := List.getElem?_eq_some_iff.1 h6
      simp at h9
      exact h9.symm
    obtain ⟨kv', vv', g1, g2, g3⟩ := MR.at i e h2 hel
    rw [hi] at g1
    cases g1
    have haddr : ρ x = .pointer (some ⟨L.blk, 0, none⟩) := by
      rw [hxe]; simp only [Loc.addr, ho1, ho2]
    obtain ⟨sn0, hsn0⟩ : ∃ sn0 : Array Nat, sn = sn0.push e.born := by
      refine ⟨seen.toArray, ?_⟩
      apply Array.toList_inj.1
      rw [hsn, Array.toList_push, hbi]
    rw [hsn0] at hb
    have hck : ck = es.length := by rw [h5, hlen]
    have hrun := run_entry_at (P := E.P) w L.blk Lm.blk es.length sn0 l ck e (by rw [hb, hck]) h1 (List.mem_of_getElem? hel) h3.2.1
    have := ResR.of_val (W0 := W0) (base := E.base) (σ := σ) (next := s.next) (w := w) (P := E.P) (s := Instr.entry (ρ x)) (res := .val (.tuple [kv, vv]) s.h s.next)
      ⟨_, _, _, rfl, ValR.same (u := .tuple #[e.key, e.val]) H (by rw [haddr]; exact hrun) (by simp only [RV]; exact ⟨_, rfl, RVs.cons g2 (RVs.cons g3 RVs.nil)⟩)⟩
    simpa [execOp, ho] using this)
  exact hres t' hset
end
end Go.Vm
end
