/- DebugBack returns true for every list, index and number, and changes nothing that lay before. No conditions. Part VB. -/
import Derived.Test.YtnlkhnbbkjejkaaGreatDoorVA
import Derived.Laws.Strings
import Derived.Laws.Entries
import Derived.Laws.StructEq
import Derived.Laws.BitsLemmas
import Derived.Laws.AppendOwn
import Derived.Laws.Runes
set_option linter.unusedSimpArgs false
set_option linter.unusedVariables false
section
namespace Go.Vm

/-! ### strings as numbers -/
theorem encL_append : ∀ (a b : List Nat) (n : Nat), encL (a ++ b) n = encL b (encL a n)
  | [], _, _ => rfl
  | _ :: a, b, n => encL_append a b _
theorem encL_eq : ∀ (l : List Nat) (n : Nat), encL l n = n * 256 ^ l.length + encL l 0
  | [], n => by simp [encL]
  | b :: l, n => by
    simp only [encL, List.length_cons]
    rw [encL_eq l (n * 256 + b), encL_eq l (0 * 256 + b), Nat.pow_succ, Nat.zero_mul, Nat.zero_add, Nat.add_mul, Nat.mul_assoc, Nat.mul_comm 256, Nat.add_assoc]
theorem encL_lt : ∀ (l : List Nat), (∀ b ∈ l, b < 256) → encL l 0 < 256 ^ l.length
  | [], _ => by simp [encL]
  | b :: l, h => by
    simp only [encL, List.length_cons]
    rw [encL_eq l (0 * 256 + b), Nat.pow_succ]
    have h1 := encL_lt l (fun c hc => h c (by simp [hc]))
    have h2 := h b (by simp)
    have : (0 * 256 + b) * 256 ^ l.length ≤ 255 * 256 ^ l.length := Nat.mul_le_mul_right _ (by omega)
    omega
def bytesOf (s : ByteArray) : List Nat := s.data.toList.map (·.toNat)
theorem bytesOf_lt (s : ByteArray) : ∀ b ∈ bytesOf s, b < 256 := by
  intro b hb
  simp only [bytesOf, List.mem_map] at hb
  obtain ⟨u, _, rfl⟩ := hb
  exact u.toNat_lt
theorem bytesOf_length (s : ByteArray) : (bytesOf s).length = s.size := by
  simp [bytesOf]
theorem spow_eq (k : Nat) : spow k = 256 ^ k := by
  show 2 ^ (8 * k) = 256 ^ k
  rw [Nat.pow_mul]
theorem slen_enc (l : List Nat) (h : ∀ b ∈ l, b < 256) : slen (encL l 1) = l.length := by
  unfold slen
  rw [encL_eq]
  have h1 := encL_lt l h
  have hp : 256 ^ l.length = 2 ^ (8 * l.length) := by rw [Nat.pow_mul]
  have hlog : Nat.log2 (1 * 256 ^ l.length + encL l 0) = 8 * l.length := by
    rw [Nat.log2_eq_iff (by have : 0 < 256 ^ l.length := Nat.pow_pos (by omega); omega)]
    rw [hp] at h1 ⊢
    rw [Nat.pow_succ]
    omega
  rw [hlog]
  show 8 * l.length / 8 = _
  omega
theorem slen_encS (s : ByteArray) : slen (encS s) = s.size := by
  unfold encS; rw [← bytesOf_length]; exact slen_enc _ (bytesOf_lt s)
theorem sdecF_enc : ∀ (l r : List Nat) (m : Nat), (∀ b ∈ l, b < 256) → sdecF l.length (encL l m) r = l ++ r := by
  intro l
  generalize hn : l.length = n
  induction n generalizing l with
  | zero =>
    intro r m _
    have : l = [] := List.eq_nil_of_length_eq_zero hn
    subst this; rfl
  | succ n ih =>
    intro r m h
    have hne : l ≠ [] := by intro e; subst e; simp at hn
    obtain ⟨l', x, rfl⟩ : ∃ l' x, l = l' ++ [x] := ⟨l.dropLast, l.getLast hne, (List.dropLast_concat_getLast hne).symm⟩
    have hl' : l'.length = n := by simpa using hn
    have hx := h x (by simp)
    rw [encL_append]
    simp only [encL, sdecF]
    have e1 : Nat.div (encL l' m * 256 + x) 256 = encL l' m := by show (encL l' m * 256 + x) / 256 = _; omega
    have e2 : Nat.mod (encL l' m * 256 + x) 256 = x := by show (encL l' m * 256 + x) % 256 = _; omega
    rw [e1, e2, ih l' hl' (x :: r) m (fun b hb => h b (by simp [hb]))]
    simp
theorem sdec_enc (l : List Nat) (h : ∀ b ∈ l, b < 256) : sdec (encL l 1) = l := by
  unfold sdec
  rw [slen_enc l h, sdecF_enc l [] 1 h]; simp
theorem sdec_encS (s : ByteArray) : sdec (encS s) = bytesOf s := sdec_enc _ (bytesOf_lt s)
theorem bytesOf_inj {s t : ByteArray} (h : bytesOf s = bytesOf t) : s = t := by
  have h1 : s.data.toList = t.data.toList := by
    refine List.map_inj_right (f := fun b : UInt8 => b.toNat) ?_ |>.1 h
    intro a b hab; exact UInt8.toNat_inj.1 hab
  cases s; cases t
  simp at h1
  simp [h1]
theorem encS_inj {s t : ByteArray} (h : encS s = encS t) : s = t := by
  apply bytesOf_inj
  rw [← sdec_encS, ← sdec_encS, h]
theorem bytes_beq (s t : ByteArray) : (s == t) = decide (s = t) := by
  obtain ⟨a⟩ := s
  obtain ⟨b⟩ := t
  show (a == b) = _
  by_cases h : a = b
  · subst h; simp
  · have h' : ¬ ((⟨a⟩ : ByteArray) = ⟨b⟩) := fun e => h (by cases e; rfl)
    rw [decide_eq_false h']; simpa using h
theorem encS_beq (s t : ByteArray) : Nat.beq (encS s) (encS t) = (s == t) := by
  rw [bytes_beq]
  by_cases h : s = t
  · subst h; simp
  · have h1 : encS s ≠ encS t := fun e => h (encS_inj e)
    rw [decide_eq_false h]
    cases hb : Nat.beq (encS s) (encS t) with
    | false => rfl
    | true => exact absurd (Nat.eq_of_beq_eq_true hb) h1
theorem bytesOf_append (s t : ByteArray) : bytesOf (s ++ t) = bytesOf s ++ bytesOf t := by
  simp [bytesOf, ByteArray.data_append]
theorem scat_enc (s t : ByteArray) : scat (encS s) (encS t) = encS (s ++ t) := by
  unfold scat
  have e1 : encS (s ++ t) = encL (bytesOf t) (encS s) := by
    show encL (bytesOf (s ++ t)) 1 = _
    rw [bytesOf_append, encL_append]; rfl
  have e2 : encS t = 1 * 256 ^ (bytesOf t).length + encL (bytesOf t) 0 := encL_eq _ _
  rw [e1, encL_eq (bytesOf t) (encS s), slen_encS, spow_eq, ← bytesOf_length]
  show encS s * _ + (encS t - _) = _
  rw [e2]; omega
theorem sget_enc (s : ByteArray) (i : Nat) (h : i < s.size) : (bytesOf s)[i]? = some (sget (encS s) i) := by
  have hl : i < (bytesOf s).length := by rw [bytesOf_length]; exact h
  rw [List.getElem?_eq_getElem hl]
  congr 1
  unfold sget
  rw [slen_encS, spow_eq, ← bytesOf_length]
  have hsplit : bytesOf s = (bytesOf s).take i ++ ((bytesOf s)[i] :: (bytesOf s).drop (i + 1)) := by
    rw [List.getElem_cons_drop, List.take_append_drop]
  have henc : encS s = encL ((bytesOf s).drop (i + 1)) (encL ((bytesOf s).take i) 1 * 256 + (bytesOf s)[i]) := by
    show encL (bytesOf s) 1 = _
    conv => lhs; rw [hsplit]
    rw [encL_append]; rfl
  have hd : ((bytesOf s).drop (i + 1)).length = (bytesOf s).length - 1 - i := by simp; omega
  have hlt := encL_lt ((bytesOf s).drop (i + 1)) (fun b hb => bytesOf_lt s b (List.mem_of_mem_drop hb))
  rw [henc, encL_eq, hd]
  rw [hd] at hlt
  have hx := bytesOf_lt s ((bytesOf s)[i]) (List.getElem_mem hl)
  show _ = ((encL ((bytesOf s).take i) 1 * 256 + (bytesOf s)[i]) * 256 ^ ((bytesOf s).length - 1 - i) + encL ((bytesOf s).drop (i + 1)) 0) / 256 ^ ((bytesOf s).length - 1 - i) % 256
  rw [Nat.mul_comm _ (256 ^ _), Nat.mul_add_div (Nat.pow_pos (by omega)), Nat.div_eq_of_lt hlt]
  omega
theorem bytesOf_extract (s : ByteArray) (l h : Nat) : bytesOf (s.extract l h) = ((bytesOf s).take h).drop l := by
  simp [bytesOf, ByteArray.data_extract, List.extract_eq_take_drop, List.map_drop, List.map_take, List.take_drop]
  by_cases hlh : l ≤ h
  · have : l + (h - l) = h := by omega
    rw [this]
  · have h1 : h - l = 0 := by omega
    rw [h1]
    rw [List.drop_eq_nil_of_le (by simp; omega), List.drop_eq_nil_of_le (by simp; omega)]
theorem sext_enc (s : ByteArray) (l h : Nat) (hlh : l ≤ h) (hs : h ≤ s.size) : sext (encS s) l h = encS (s.extract l h) := by
  unfold sext
  rw [slen_encS, spow_eq, spow_eq, ← bytesOf_length]
  have hlen : h ≤ (bytesOf s).length := by rw [bytesOf_length]; exact hs
  have e1 : encS s = encL ((bytesOf s).drop h) (encL (((bytesOf s).take h).drop l) (encL (((bytesOf s).take h).take l) 1)) := by
    rw [← encL_append (((bytesOf s).take h).take l), List.take_append_drop, ← encL_append, List.take_append_drop]; rfl
  have e2 : encS (s.extract l h) = encL (((bytesOf s).take h).drop l) 1 := by
    show encL (bytesOf (s.extract l h)) 1 = _
    rw [bytesOf_extract]
  have hd : ((bytesOf s).drop h).length = (bytesOf s).length - h := by simp
  have hm : (((bytesOf s).take h).drop l).length = h - l := by simp; omega
  have hlt := encL_lt ((bytesOf s).drop h) (fun b hb => bytesOf_lt s b (List.mem_of_mem_drop hb))
  have hlt2 := encL_lt (((bytesOf s).take h).drop l) (fun b hb => bytesOf_lt s b (List.mem_of_mem_take (List.mem_of_mem_drop hb)))
  rw [e2, e1, encL_eq ((bytesOf s).drop h), hd]
  rw [hd] at hlt
  generalize encL (((bytesOf s).take h).take l) 1 = A at *
  rw [encL_eq (((bytesOf s).take h).drop l) A, encL_eq (((bytesOf s).take h).drop l) 1, hm]
  rw [hm] at hlt2
  generalize encL (((bytesOf s).take h).drop l) 0 = M at *
  generalize encL ((bytesOf s).drop h) 0 = R at *
  show ((A * 256 ^ (h - l) + M) * 256 ^ ((bytesOf s).length - h) + R) / 256 ^ ((bytesOf s).length - h) % 256 ^ (h - l) + 256 ^ (h - l) = _
  rw [Nat.mul_comm _ (256 ^ ((bytesOf s).length - h)), Nat.mul_add_div (Nat.pow_pos (by omega)), Nat.div_eq_of_lt hlt, Nat.add_zero, Nat.mul_comm A, Nat.mul_add_mod, Nat.mod_eq_of_lt hlt2]
  omega
theorem sless_bytes : ∀ (a b : List UInt8), sless (a.map (·.toNat)) (b.map (·.toNat)) = Op.bytesLess a b
  | [], [] => by simp [sless, Op.bytesLess]
  | _ :: _, [] => by simp [sless, Op.bytesLess]
  | [], _ :: _ => by simp [sless, Op.bytesLess]
  | a :: x, b :: y => by
    have ih := sless_bytes x y
    simp only [List.map_cons, sless, Op.bytesLess]
    rw [ih]
    by_cases h1 : a.toNat < b.toNat
    · have h2 : a < b := UInt8.lt_iff_toNat_lt.2 h1
      have h3 : Nat.blt a.toNat b.toNat = true := by simp [Nat.blt_eq, h1]
      rw [h3]; simp [h2]
    · have h2 : ¬ a < b := fun h => h1 (UInt8.lt_iff_toNat_lt.1 h)
      have h3 : Nat.blt a.toNat b.toNat = false := by
        cases h : Nat.blt a.toNat b.toNat with
        | false => rfl
        | true => exact absurd (by simpa [Nat.blt_eq] using h) h1
      rw [h3]
      simp only [h2, decide_false, Bool.false_or]
      by_cases h4 : a = b
      · subst h4; simp
      · have h5 : Nat.beq a.toNat b.toNat = false := by
          cases h : Nat.beq a.toNat b.toNat with
          | false => rfl
          | true => exact absurd (UInt8.toNat_inj.1 (Nat.eq_of_beq_eq_true h)) h4
        rw [h5]; simp [h4]
theorem sless_enc (s t : ByteArray) : sless (sdec (encS s)) (sdec (encS t)) = Op.bytesLess s.toList t.toList := by
  rw [sdec_encS, sdec_encS, ByteArray.toList_eq, ByteArray.toList_eq]; exact sless_bytes _ _

end Go.Vm
end
section
namespace Go.Vm

/-! ### operands -/
mutual
theorem absV_sound (σ : Sig) : ∀ (f : Nat) (v : Value) (a : AV), absV f v = some a → RV σ a v
  | 0, _, _, h => by simp [absV] at h
  | f + 1, v, a, h => by
    unfold absV at h
    split at h
    all_goals first
      | (simp at h; done)
      | (cases h; simp only [RV]; done)
      | (cases h; simp only [RV]; exact ⟨_, rfl, rfl⟩)
      | skip
    · rename_i g x y
      cases e1 : absVs f x.toList with
      | none => simp only [e1] at h; cases h
      | some l1 =>
        cases e2 : absVs f y.toList with
        | none => simp only [e1, e2] at h; cases h
        | some l2 =>
          simp only [e1, e2] at h; cases h
          simp only [RV]
          exact ⟨x.toList, y.toList, rfl, trivial, absVs_sound σ f _ _ e1, absVs_sound σ f _ _ e2⟩
    · rename_i t u
      cases e1 : absV f u with
      | none => simp only [e1] at h; cases h
      | some l1 =>
        simp only [e1] at h; cases h
        simp only [RV]
        exact ⟨u, rfl, absV_sound σ f _ _ e1⟩
    · rename_i x
      cases e1 : absVs f x.toList with
      | none => simp only [e1] at h; cases h
      | some l1 =>
        simp only [e1] at h; cases h
        simp only [RV]
        exact ⟨x.toList, rfl, absVs_sound σ f _ _ e1⟩
    · rename_i x
      cases e1 : absVs f x.toList with
      | none => simp only [e1] at h; cases h
      | some l1 =>
        simp only [e1] at h; cases h
        simp only [RV]
        exact ⟨x.toList, rfl, absVs_sound σ f _ _ e1⟩
theorem absVs_sound (σ : Sig) : ∀ (f : Nat) (v : List Value) (a : List AV), absVs f v = some a → RVs σ a v
  | 0, _, _, h => by simp [absVs] at h
  | _ + 1, [], a, h => by simp only [absVs, Option.some.injEq] at h; subst h; exact RVs.nil
  | f + 1, v :: l, a, h => by
    simp only [absVs] at h
    cases e1 : absV f v with
    | none => simp only [e1] at h; cases h
    | some x =>
      cases e2 : absVs f l with
      | none => simp only [e1, e2] at h; cases h
      | some k =>
        simp only [e1, e2] at h; cases h
        exact RVs.cons (absV_sound σ f _ _ e1) (absVs_sound σ f _ _ e2)
end

/-- The old groups stand at their numbers. -/
def GL (σ : Sig) (base : Nat) : Prop := ∀ g, g < base → ∃ L, σ (nk g) 0 = some L ∧ L.blk = g ∧ L.off = 0 ∧ L.c0 = 0
theorem GL.mono {σ σ' : Sig} (hs : Sub σ σ') {base : Nat} (h : GL σ base) : GL σ' base :=
  fun g hg => let ⟨L, h1, h2⟩ := h g hg; ⟨L, hs _ _ _ h1, h2⟩

/-- An operand's value is what the tree says. -/
def EvOK (σ : Sig) (base : Nat) (t : T AV) (ρ : Operand → Value) (x : Operand) : Prop := ∀ a, evalA base t x = some a → RV σ a (ρ x)
def evT (tmps : Array Value) : Operand → Value
  | .tmp t => tmps.getD t undef
  | .const v => v
  | .global g => .pointer (some ⟨g, 0, none⟩)
  | .func f => .func (.func f) #[] #[]
theorem Frame.eval_eq (fr : Frame) : fr.eval = evT fr.tmps := by funext x; cases x <;> rfl
theorem EvOK.of {σ : Sig} {base : Nat} {t : T AV} {tmps : Array Value} (hg : GL σ base) (x : Operand) (h : ∀ k, x = .tmp k → RV σ (tget t k) (tmps.getD k undef)) : EvOK σ base t (evT tmps) x := by
  intro a ha
  cases x with
  | tmp k => simp only [evalA, Option.some.injEq] at ha; subst ha; exact h k rfl
  | const v => exact absV_sound σ _ _ _ ha
  | global g =>
    simp only [evalA] at ha
    cases hb : Nat.ble (Nat.add g 1) base with
    | false => rw [hb] at ha; cases ha
    | true =>
      rw [hb] at ha; cases ha
      obtain ⟨L, h1, h2, h3, h4⟩ := hg g (Nat.le_of_ble_eq_true hb)
      simp only [RV, evT]
      exact ⟨L, h1, by omega, by simp [Loc.addr, h2, h3]⟩
  | func f =>
    simp only [evalA, Option.some.injEq] at ha; subst ha
    simp only [RV, evT]
    exact ⟨[], [], rfl, trivial, RVs.nil, RVs.nil⟩

theorem evals_sound {σ : Sig} {base : Nat} {t : T AV} {ρ : Operand → Value} : ∀ (l : List Operand) (as : List AV), (∀ x ∈ l, EvOK σ base t ρ x) → evalsA base t l = some as → RVs σ as (l.map ρ)
  | [], as, _, h => by simp only [evalsA, Option.some.injEq] at h; subst h; exact RVs.nil
  | x :: l, as, H, h => by
    simp only [evalsA] at h
    cases e1 : evalA base t x with
    | none => simp only [e1] at h; cases h
    | some v =>
      cases e2 : evalsA base t l with
      | none => simp only [e1, e2] at h; cases h
      | some k =>
        simp only [e1, e2] at h; cases h
        exact RVs.cons (H x (by simp) _ e1) (evals_sound l k (fun y hy => H y (by simp [hy])) e2)
/-- parts of a literal -/
def PR (σ : Sig) : List (Nat × AV) → List (Nat × Value) → Prop
  | [], l => l = []
  | (i, a) :: as, l => ∃ v l', l = (i, v) :: l' ∧ RV σ a v ∧ PR σ as l'
theorem evalPs_sound {σ : Sig} {base : Nat} {t : T AV} {ρ : Operand → Value} : ∀ (l : List (Nat × Operand)) (as : List (Nat × AV)), (∀ x ∈ sndL l, EvOK σ base t ρ x) → evalPs base t l = some as →
    PR σ as (l.map fun (i, x) => (i, ρ x))
  | [], as, _, h => by simp only [evalPs, Option.some.injEq] at h; subst h; rfl
  | (i, x) :: l, as, H, h => by
    simp only [evalPs] at h
    cases e1 : evalA base t x with
    | none => simp only [e1] at h; cases h
    | some v =>
      cases e2 : evalPs base t l with
      | none => simp only [e1, e2] at h; cases h
      | some k =>
        simp only [e1, e2] at h; cases h
        exact ⟨_, _, rfl, H x (by simp [sndL]) _ e1, evalPs_sound l k (fun y hy => H y (by simp [sndL, hy])) e2⟩
theorem evalO_sound {σ : Sig} {base : Nat} {t : T AV} {ρ : Operand → Value} (x : Option Operand) (a : Option AV) (H : ∀ y ∈ oOpt x, EvOK σ base t ρ y) (h : evalO base t x = some a) :
    (a = none ∧ x = none) ∨ ∃ v y, a = some v ∧ x = some y ∧ RV σ v (ρ y) := by
  cases x with
  | none => simp only [evalO, Option.some.injEq] at h; subst h; exact .inl ⟨rfl, rfl⟩
  | some y =>
    simp only [evalO] at h
    cases e1 : evalA base t y with
    | none => simp only [e1] at h; cases h
    | some v =>
      simp only [e1] at h; cases h
      exact .inr ⟨v, y, rfl, rfl, H y (by simp [oOpt]) _ e1⟩

/-! ### types -/
section
variable {P : Program} {w : World}
theorem run_info {t : TypeId} {i : TypeInfo} (h : P.info? t = some i) : (typeInfo t).run P w = .ok i w := by simp [typeInfo, h]
theorem run_szA {t : TypeId} {n : Nat} (h : szA P t = some n) : (sizeOf t).run P w = .ok n w := by
  unfold szA at h
  cases e : P.info? t with
  | none => rw [e] at h; cases h
  | some i => rw [e] at h; cases h; simp [sizeOf, run_info e]
theorem run_zeroA (σ : Sig) {t : TypeId} {z : AV} (h : zeroA P t = some z) : ∃ Z, (zeroValue t).run P w = .ok Z w ∧ RV σ z Z := by
  unfold zeroA at h
  cases e : P.info? t with
  | none => rw [e] at h; cases h
  | some i =>
    rw [e] at h
    simp only at h
    cases e2 : i.zero with
    | none => rw [e2] at h; cases h
    | some Z =>
      rw [e2] at h
      exact ⟨Z, by simp [zeroValue, run_info e, e2], absV_sound σ _ _ _ h⟩
theorem run_isAggA {t : TypeId} {b : Bool} (h : isAggA P t = some b) : (isAgg t).run P w = .ok b w := by
  unfold isAggA at h
  cases e : P.underlying t with
  | none => rw [e] at h; cases h
  | some d =>
    rw [e] at h
    cases d <;> (simp only [Option.some.injEq] at h; subst h; simp [isAgg, run_underlying e])
end
theorem RV.cells {σ : Sig} {x : AV} {v : Value} (h : RV σ x v) : RVs σ x.cells v.cells.toList := by
  have single : ∀ {x : AV} {v : Value}, RV σ x v → RVs σ [x] [v] := fun h => RVs.cons h RVs.nil
  cases x <;> simp only [AV.cells]
  case agg cs =>
    simp only [RV] at h
    obtain ⟨l, rfl, h2⟩ := h
    simpa [Value.cells] using h2
  all_goals (
    have h2 := single h
    simp only [RV] at h
    first
      | (subst h; exact h2)
      | (obtain ⟨s, rfl, _⟩ := h; exact h2)
      | (obtain ⟨L, _, _, rfl⟩ := h; exact h2)
      | (obtain ⟨a, c, rfl, _⟩ := h; exact h2)
      | (obtain ⟨L, _, rfl⟩ := h; exact h2))
theorem RV.cells_size {σ : Sig} {x : AV} {v : Value} (h : RV σ x v) : v.cells.size = len x.cells := by
  have := RVs.length h.cells
  rw [len_eq, this]; simp

theorem partA_sound {P : Program} {w : World} {σ : Sig} {t : TypeId} {cs : List AV} {off : Nat} {v : AV} {vs : List Value} (h : partA P t cs off = some v) (hr : RVs σ cs vs) :
    ∃ u, (part t vs.toArray off).run P w = .ok u w ∧ RV σ v u := by
  unfold partA at h
  cases e : isAggA P t with
  | none => rw [e] at h; cases h
  | some b =>
    rw [e] at h
    cases b with
    | true =>
      simp only at h
      cases e2 : szA P t with
      | none => rw [e2] at h; cases h
      | some n =>
        rw [e2] at h
        simp only at h
        cases e3 : takeN n (dropN off cs) with
        | none => rw [e3] at h; cases h
        | some l =>
          rw [e3] at h; cases h
          obtain ⟨t1, t2⟩ := takeN_eq _ _ _ e3
          rw [dropN_eq] at t1 t2
          refine ⟨_, by simp [part, run_isAggA e, run_szA e2]; rfl, ?_⟩
          simp only [RV]
          exact ⟨(vs.drop off).take n, rfl, by rw [t2]; exact (hr.drop off).take n⟩
    | false =>
      simp only at h
      rw [dropN_eq] at h
      cases e3 : cs.drop off with
      | nil => rw [e3] at h; cases h
      | cons x l =>
        rw [e3] at h; cases h
        have : cs[off]? = some v := by
          have := congrArg (fun l : List AV => l[0]?) e3
          simpa using this
        obtain ⟨u, hu, hru⟩ := hr.get _ _ this
        refine ⟨u, ?_, hru⟩
        simp [part, run_isAggA e, hu]

theorem loadA_sound {P : Program} {W0 : World} {base : Nat} {σ : Sig} {h : T Obj} {next : Pos} {w : World} (H : WR W0 base σ h next w) {t : TypeId} {a v : AV} {b : Value} (ha : RV σ a b) (hl : loadA P h t a = some v) :
    ∃ ad u, b = .pointer (some ad) ∧ (loadVar t ad).run P w = .ok u w ∧ RV σ v u := by
  cases a <;> simp only [loadA] at hl <;> try (cases hl; done)
  rename_i g ve c
  simp only [RV] at ha
  obtain ⟨L, hL, hc, rfl⟩ := ha
  cases e : isAggA P t with
  | none => rw [e] at hl; cases hl
  | some b =>
    rw [e] at hl
    cases b with
    | true =>
      simp only at hl
      cases e2 : szA P t with
      | none => rw [e2] at hl; cases hl
      | some n =>
        rw [e2] at hl
        simp only at hl
        cases e3 : getCells h g ve c n with
        | none => rw [e3] at hl; cases hl
        | some l =>
          rw [e3] at hl; cases hl
          obtain ⟨vals, h1, h2, h3, _⟩ := getCells_sound H hL hc e3
          have hr := run_loadCells_list (P := P) w (L.addr c) vals h3
          rw [h2] at hr
          refine ⟨_, .agg vals.toArray, rfl, ?_, ?_⟩
          · simp [loadVar, run_isAggA e, run_szA e2, hr]
          · simp only [RV]; exact ⟨vals, rfl, h1⟩
    | false =>
      simp only at hl
      cases e3 : getCells h g ve c 1 with
      | none => rw [e3] at hl; cases hl
      | some l =>
        rw [e3] at hl
        obtain ⟨vals, h1, h2, h3, _⟩ := getCells_sound H hL hc e3
        cases l with
        | nil => cases hl
        | cons x l =>
          cases hl
          obtain ⟨u, us, rfl, h4, _⟩ := RVs.cons_inv h1
          have hc0 := h3 0 u rfl
          have e0 : (L.addr c).add 0 = L.addr c := rfl
          rw [e0] at hc0
          refine ⟨_, u, rfl, ?_, h4⟩
          simp [loadVar, run_isAggA e, hc0]

end Go.Vm
end
section
namespace Go.Vm

theorem intEq_eq (a b : Int) : intEq a b = (a == b) := by
  have h : intEq a b = decide (a = b) := by
    cases a <;> cases b <;> simp only [intEq]
    · rename_i m n
      by_cases hmn : m = n
      · subst hmn; simp
      · rw [decide_eq_false (fun e => hmn (by cases e; rfl))]
        cases hb : Nat.beq m n with
        | false => rfl
        | true => exact absurd (Nat.eq_of_beq_eq_true hb) hmn
    · simp
    · simp
    · rename_i m n
      by_cases hmn : m = n
      · subst hmn; simp
      · rw [decide_eq_false (fun e => hmn (by cases e; rfl))]
        cases hb : Nat.beq m n with
        | false => rfl
        | true => exact absurd (Nat.eq_of_beq_eq_true hb) hmn
  rw [h]; rfl
theorem blt_eq (m n : Nat) : Nat.blt m n = decide (m < n) := by
  by_cases h : m < n
  · rw [decide_eq_true h]; simpa [Nat.blt_eq] using h
  · rw [decide_eq_false h]
    cases hb : Nat.blt m n with
    | false => rfl
    | true => exact absurd (by simpa [Nat.blt_eq] using hb) h
theorem intLt_eq (a b : Int) : intLt a b = decide (a < b) := by
  cases a <;> cases b <;> simp only [intLt, blt_eq]
  · rename_i m n
    congr 1
    exact propext (by simp)
  · rename_i m n
    symm
    rw [decide_eq_false_iff_not]
    have := Int.negSucc_lt_zero n
    intro h
    have h2 : (0 : Int) ≤ Int.ofNat m := Int.natCast_nonneg m
    omega
  · rename_i m n
    symm
    rw [decide_eq_true_iff]
    have := Int.negSucc_lt_zero m
    have h2 : (0 : Int) ≤ Int.ofNat n := Int.natCast_nonneg n
    omega
  · rename_i m n
    congr 1
    apply propext
    rw [Int.negSucc_eq, Int.negSucc_eq]
    omega
theorem kindEq_eq {a b : IntKind} (h : kindEq a b = true) : a = b := by cases a <;> cases b <;> first | rfl | (simp [kindEq] at h)
theorem wrapA_eq (k : IntKind) (n : Int) : wrapA k n = k.wrap n := by
  cases k <;> simp only [wrapA]
  cases h : small n with
  | false => rfl
  | true =>
    simp only
    have hb : -9223372036854775808 ≤ n ∧ n < 9223372036854775808 := by
      cases n with
      | ofNat m =>
        simp only [small, blt_eq, decide_eq_true_eq] at h
        have : (Int.ofNat m : Int) = (m : Int) := rfl
        omega
      | negSucc m =>
        simp only [small, blt_eq, decide_eq_true_eq] at h
        rw [Int.negSucc_eq]
        omega
    rw [IntKind.wrap_i64]
    omega

section
variable {P : Program} {w : World} {t : TypeId}
theorem intOp_sound {op : BinOp} {k : IntKind} {a b : Int} {v : AV} (h : intOp op k a b = some v) (j : IntKind) (hj : isShift op = false → j = k) :
    ∃ u, (binOp op t (.int k a) (.int j b)).run P w = .ok u w ∧ ∀ σ, RV σ v u := by
  cases op <;> simp only [intOp, reduceCtorEq] at h
  all_goals first
    | (cases h; done)
    | (have hj' := hj rfl
       subst hj'
       simp only [Option.some.injEq] at h
       subst h
       refine ⟨_, by simp [binOp, Op.intArith, Op.intBits, Op.intCmp]; rfl, fun σ => ?_⟩
       simp only [RV, wrapA_eq, intEq_eq, intLt_eq]
       try (first | rfl | (simp; done) | (congr 1; simp; done) | (congr 1; rw [← decide_not]; congr 1; apply propext; omega)))
    | skip
  · -- quo
    have hj' := hj rfl
    subst hj'
    cases hb : intEq b 0 with
    | true => rw [hb] at h; cases h
    | false =>
      rw [hb] at h; cases h
      have hb' : b ≠ 0 := by rw [intEq_eq] at hb; simpa using hb
      refine ⟨_, by simp [binOp, Op.intDiv, hb']; rfl, fun σ => ?_⟩
      simp only [RV, wrapA_eq]
  · have hj' := hj rfl
    subst hj'
    cases hb : intEq b 0 with
    | true => rw [hb] at h; cases h
    | false =>
      rw [hb] at h; cases h
      have hb' : b ≠ 0 := by rw [intEq_eq] at hb; simpa using hb
      refine ⟨_, by simp [binOp, Op.intDiv, hb']; rfl, fun σ => ?_⟩
      simp only [RV]
  · cases hb : intLt b 0 with
    | true => rw [hb] at h; cases h
    | false =>
      rw [hb] at h; cases h
      have hb' : ¬ b < 0 := by rw [intLt_eq] at hb; simpa using hb
      refine ⟨_, by simp [binOp, Op.shift, hb']; rfl, fun σ => ?_⟩
      simp only [RV]
  · cases hb : intLt b 0 with
    | true => rw [hb] at h; cases h
    | false =>
      rw [hb] at h; cases h
      have hb' : ¬ b < 0 := by rw [intLt_eq] at hb; simpa using hb
      refine ⟨_, by simp [binOp, Op.shift, hb']; rfl, fun σ => ?_⟩
      simp only [RV]

theorem strOp_sound {op : BinOp} {a b : Nat} {v : AV} {x y : ByteArray} (hx : encS x = a) (hy : encS y = b) (h : strOp op a b = some v) :
    ∃ u, (binOp op t (.string x) (.string y)).run P w = .ok u w ∧ ∀ σ, RV σ v u := by
  subst hx hy
  cases op <;> simp only [strOp, reduceCtorEq] at h
  all_goals first
    | (cases h; done)
    | (simp only [Option.some.injEq] at h
       subst h
       refine ⟨_, by simp [binOp, Op.stringOp]; rfl, fun σ => ?_⟩
       simp only [RV, encS_beq, sless_enc, beq_toListBytes]
       done)
    | skip
  · cases hb : Nat.blt 1000000 (Nat.add (slen (encS x)) (slen (encS y))) with
    | true => rw [hb] at h; cases h
    | false =>
      rw [hb] at h; cases h
      rw [blt_eq, slen_encS, slen_encS] at hb
      have hb' : ¬ (9223372036854775807 < (x.size : Int) + (y.size : Int)) := by
        have : ¬ 1000000 < x.size + y.size := by simpa using hb
        omega
      refine ⟨_, by simp [binOp, Op.stringOp, hb']; rfl, fun σ => ?_⟩
      simp only [RV]
      exact ⟨_, rfl, (scat_enc x y).symm⟩
end

end Go.Vm
end
section
namespace Go.Vm

theorem Loc.addr_inj {L : Loc} {c c' : Nat} (h : L.c0 ≤ c) (h' : L.c0 ≤ c') : (L.addr c = L.addr c') ↔ c = c' := by
  constructor
  · intro e
    simp only [Loc.addr, Addr.mk.injEq] at e
    omega
  · rintro rfl; rfl

section
variable {P : Program} {W0 : World} {base : Nat} {σ : Sig} {h : T Obj} {next : Pos} {w : World}

theorem quiet_block (H : WR W0 base σ h next w) {g : Pos} {v : Nat} {L : Loc} {o : Obj} (hL : σ g v = some L) (ho : h.get g = some o) (hq : quietObj o = true) :
    ∃ c e, w.heap[L.blk]? = some (.cells c e (0, 0)) := by
  have := H.obj _ _ _ _ hL ho
  cases o with
  | row cs elem =>
    obtain ⟨_, _, _, c, h4, _⟩ := this
    exact ⟨c, elem, h4⟩
  | arr t latest ends frz elem =>
    obtain ⟨e, c, fz, h1, h2, h3, h4, h5, h6, h7⟩ := this
    have hz : frz = 0 := Nat.eq_of_beq_eq_true hq
    rw [h6 hz] at h2
    exact ⟨c, elem, h2⟩
  | map _ => cases hq
  | loop _ => cases hq
  | deferred _ => cases hq
  | iter _ _ _ => cases hq

theorem sameP_sound (H : WR W0 base σ h next w) {x y : AV} {a b : Option Addr} {r : Bool} (hx : RV σ x (.pointer a)) (hy : RV σ y (.pointer b)) (hs : sameP h x y = some r) :
    (samePointer a b).run P w = .ok r w := by
  cases x <;> simp only [sameP] at hs <;> try (cases hs; done)
  · rename_i g v c
    simp only [RV] at hx
    obtain ⟨L, hL, hc, e1⟩ := hx
    cases e1
    cases y <;> simp only at hs <;> try (cases hs; done)
    · rename_i g' v' c'
      simp only [RV] at hy
      obtain ⟨L', hL', hc', e2⟩ := hy
      cases e2
      cases hg : g.beq g' with
      | true =>
        have := Pos.eq_of_beq hg
        subst this
        rw [hg] at hs
        simp only at hs
        cases hv : Nat.beq v v' with
        | false => rw [hv] at hs; cases hs
        | true =>
          have := Nat.eq_of_beq_eq_true hv
          subst this
          rw [hv] at hs; cases hs
          rw [hL] at hL'; cases hL'
          have hb : (L.addr c).block == (L.addr c').block := by simp [Loc.addr]
          simp only [samePointer, sameAddr, hb, if_true]
          have : (L.addr c == L.addr c') = Nat.beq c c' := by
            by_cases hcc : c = c'
            · subst hcc; simp
            · have h1 : L.addr c ≠ L.addr c' := fun e => hcc ((Loc.addr_inj hc hc').1 e)
              have h2 : Nat.beq c c' = false := by
                cases hn : Nat.beq c c' with
                | false => rfl
                | true => exact absurd (Nat.eq_of_beq_eq_true hn) hcc
              rw [h2]; simpa using h1
          rw [this]; rfl
      | false =>
        rw [hg] at hs
        simp only at hs
        cases hx : h.get g with
        | none => rw [hx] at hs; cases hs
        | some ox =>
          cases hy : h.get g' with
          | none => rw [hx, hy] at hs; cases hs
          | some oy =>
            rw [hx, hy] at hs
            simp only at hs
            cases qx : quietObj ox with
            | false => rw [qx] at hs; cases hs
            | true =>
              rw [qx] at hs
              simp only at hs
              cases qy : quietObj oy with
              | false => rw [qy] at hs; cases hs
              | true =>
                rw [qy] at hs; cases hs
                have hne : L.blk ≠ L'.blk := fun e => Pos.beq_false_iff.1 hg (H.inj _ _ _ _ _ _ hL hL' e).1
                have hb : ((L.addr c).block == (L'.addr c').block) = false := by simpa [Loc.addr] using hne
                obtain ⟨c1, e1, k1⟩ := quiet_block H hL hx qx
                obtain ⟨c2, e2, k2⟩ := quiet_block H hL' hy qy
                have fz : ∀ (b off : Nat) (c : Array Value) (e : TypeId), w.heap[b]? = some (.cells c e (0, 0)) → w.frozen? ⟨b, off, none⟩ = false := by
                  intro b off c e hb; rw [frozen_of w b off c e _ hb]; simp
                have sh : ∀ (b : Nat) (c : Array Value) (e : TypeId), w.heap[b]? = some (.cells c e (0, 0)) → w.shape? b = some (e, c.size) := by
                  intro b c e hb; simp [World.shape?, hb]
                simp [samePointer, sameAddr, hb, noView, viewAt, mayBeOne, stringish, Loc.addr, fz _ _ _ _ k1, fz _ _ _ _ k2, sh _ _ _ k1, sh _ _ _ k2, hne]
    · simp only [RV] at hy
      cases hy; cases hs
      rfl
  · simp only [RV] at hx
    cases hx
    cases y <;> simp only at hs <;> try (cases hs; done)
    · rename_i g' v' c'
      simp only [RV] at hy
      obtain ⟨L', hL', hc', e2⟩ := hy
      cases e2; cases hs
      rfl
    · simp only [RV] at hy
      cases hy; cases hs
      rfl

theorem eqFs_sound (H : WR W0 base σ h next w) {eq : TypeId → AV → AV → Option Bool} {D : Nat} (heq : ∀ t x y r u v, eq t x y = some r → RV σ x u → RV σ y v → (Op.equalIn D t u v).run P w = .ok r w)
    {xs ys : List AV} {us vs : List Value} (hx : RVs σ xs us) (hy : RVs σ ys vs) : ∀ (fs : List Field) (r : Bool), eqFs P eq xs ys fs = some r → (Op.eqFields D us.toArray vs.toArray fs).run P w = .ok r w
  | [], r, hr => by simp only [eqFs, Option.some.injEq] at hr; subst hr; rfl
  | f :: fs, r, hr => by
    simp only [eqFs] at hr
    cases hn : f.name == "_" with
    | true =>
      rw [hn] at hr
      have hn' : f.name = "_" := by simpa using hn
      simp only [Op.eqFields, hn', ne_eq, not_true_eq_false, if_false]
      exact eqFs_sound H heq hx hy fs r hr
    | false =>
      rw [hn] at hr
      have hn' : f.name ≠ "_" := by simpa using hn
      simp only at hr
      cases e1 : partA P f.type xs f.offset with
      | none => rw [e1] at hr; cases hr
      | some x =>
        cases e2 : partA P f.type ys f.offset with
        | none => rw [e1, e2] at hr; cases hr
        | some y =>
          rw [e1, e2] at hr
          simp only at hr
          obtain ⟨u, hu, hxu⟩ := partA_sound (P := P) (w := w) e1 hx
          obtain ⟨v, hv, hyv⟩ := partA_sound (P := P) (w := w) e2 hy
          cases e3 : eq f.type x y with
          | none => rw [e3] at hr; cases hr
          | some b =>
            have hb := heq _ _ _ _ _ _ e3 hxu hyv
            rw [e3] at hr
            cases b with
            | true =>
              simp only at hr
              have ih := eqFs_sound H heq hx hy fs r hr
              simp [Op.eqFields, hn', hu, hv, hb, ih]
            | false =>
              cases hr
              simp [Op.eqFields, hn', hu, hv, hb]

theorem eqA_sound (H : WR W0 base σ h next w) : ∀ (d D : Nat) (t : TypeId) (x y : AV) (r : Bool) (u v : Value), d ≤ D → eqA P h d t x y = some r → RV σ x u → RV σ y v → (Op.equalIn D t u v).run P w = .ok r w
  | 0, _, _, _, _, _, _, _, _, hr, _, _ => by simp [eqA] at hr
  | d + 1, 0, _, _, _, _, _, _, hd, _, _, _ => by omega
  | d + 1, D + 1, t, x, y, r, u, v, hd, hr, hx, hy => by
    simp only [eqA] at hr
    cases ht : P.underlying t with
    | none => rw [ht] at hr; cases hr
    | some td =>
      rw [ht] at hr
      cases td <;> (try simp only at hr) <;> (try (cases hr; done))
      case bool =>
        cases x <;> (try simp only at hr) <;> (try (cases hr; done))
        cases y <;> (try simp only at hr) <;> (try (cases hr; done))
        simp only [RV] at hx hy
        subst hx hy; cases hr
        simp [Op.equalIn, run_underlying ht]
      case int k0 =>
        cases x <;> (try simp only at hr) <;> (try (cases hr; done))
        cases y <;> (try simp only at hr) <;> (try (cases hr; done))
        rename_i k a k' b
        simp only [RV] at hx hy
        subst hx hy
        cases hk : kindEq k k' with
        | false => rw [hk] at hr; cases hr
        | true =>
          have := kindEq_eq hk
          subst this
          rw [hk] at hr; cases hr
          simp [Op.equalIn, run_underlying ht, intEq_eq]
      case string =>
        cases x <;> (try simp only at hr) <;> (try (cases hr; done))
        cases y <;> (try simp only at hr) <;> (try (cases hr; done))
        simp only [RV] at hx hy
        obtain ⟨s, rfl, rfl⟩ := hx
        obtain ⟨s', rfl, rfl⟩ := hy
        cases hr
        simp [Op.equalIn, run_underlying ht, encS_beq]
      case pointer e =>
        cases hz : szA P e with
        | none => rw [hz] at hr; cases hr
        | some n =>
          rw [hz] at hr
          cases n with
          | zero => cases hr
          | succ n =>
            simp only at hr
            have hpx : ∃ a, u = .pointer a := by
              cases x <;> simp only [sameP] at hr <;> try (cases hr; done)
              · simp only [RV] at hx; obtain ⟨L, _, _, rfl⟩ := hx; exact ⟨_, rfl⟩
              · simp only [RV] at hx; exact ⟨_, hx⟩
            have hpy : ∃ a, v = .pointer a := by
              cases x <;> simp only [sameP] at hr <;> try (cases hr; done)
              all_goals (cases y <;> (try simp only at hr) <;> (try (cases hr; done)))
              all_goals (simp only [RV] at hy)
              all_goals first
                | exact ⟨_, hy⟩
                | (obtain ⟨L, _, _, rfl⟩ := hy; exact ⟨_, rfl⟩)
            obtain ⟨a, rfl⟩ := hpx
            obtain ⟨b, rfl⟩ := hpy
            have hsp := sameP_sound (P := P) H hx hy hr
            cases a with
            | none =>
              simp only [samePointer, Sem.run_pure, Result.ok.injEq, and_true, Option.isNone_none, Bool.true_and] at hsp
              subst hsp
              simp [Op.equalIn, run_underlying ht]
            | some a =>
              cases b with
              | none =>
                simp only [samePointer, Sem.run_pure, Result.ok.injEq, and_true, Option.isNone_some, Bool.false_and] at hsp
                subst hsp
                simp [Op.equalIn, run_underlying ht]
              | some b =>
                simp only [samePointer] at hsp
                simp [Op.equalIn, run_underlying ht, run_szA hz, hsp]
      case interface ms =>
        cases x <;> (try simp only at hr) <;> (try (cases hr; done))
        all_goals (cases y <;> (try simp only at hr) <;> (try (cases hr; done)))
        all_goals (simp only [RV] at hx hy)
        all_goals (cases hr)
        · obtain ⟨a, rfl, _⟩ := hx; subst hy
          simp [Op.equalIn, run_underlying ht]
        · obtain ⟨a, rfl, _⟩ := hy; subst hx
          simp [Op.equalIn, run_underlying ht]
        · subst hx hy
          simp [Op.equalIn, run_underlying ht]
      case struct fields =>
        cases x <;> (try simp only at hr) <;> (try (cases hr; done))
        cases y <;> (try simp only at hr) <;> (try (cases hr; done))
        simp only [RV] at hx hy
        obtain ⟨us, rfl, hx⟩ := hx
        obtain ⟨vs, rfl, hy⟩ := hy
        cases hst : P.stoodInHeld t with
        | true => rw [hst] at hr; cases hr
        | false =>
          rw [hst] at hr
          simp only at hr
          have hf : P.fieldsOf t = fields := by simp [Program.fieldsOf, ht]
          rw [run_equalIn_struct w D t us.toArray vs.toArray (by rw [hf]; exact ht) hst, hf]
          exact eqFs_sound H (fun t' x' y' r' u' v' e1 e2 e3 => eqA_sound H d D t' x' y' r' u' v' (by omega) e1 e2 e3) hx hy fields.toList r hr
      case slice e =>
        cases x <;> (try simp only at hr) <;> (try (cases hr; done))
        all_goals (cases y <;> (try simp only at hr) <;> (try (cases hr; done)))
        all_goals (simp only [RV] at hx hy)
        all_goals (cases hr)
        · obtain ⟨a, c, rfl, _⟩ := hx; subst hy
          simp [Op.equalIn, run_underlying ht]
        · obtain ⟨a, c, rfl, _⟩ := hy; subst hx
          simp [Op.equalIn, run_underlying ht]
        · subst hx hy
          simp [Op.equalIn, run_underlying ht]
      case map k e =>
        cases x <;> (try simp only at hr) <;> (try (cases hr; done))
        all_goals (cases y <;> (try simp only at hr) <;> (try (cases hr; done)))
        all_goals (simp only [RV] at hx hy)
        all_goals (cases hr)
        · obtain ⟨L, _, rfl⟩ := hx; subst hy
          simp [Op.equalIn, run_underlying ht]
        · obtain ⟨L, _, rfl⟩ := hy; subst hx
          simp [Op.equalIn, run_underlying ht]
        · subst hx hy
          simp [Op.equalIn, run_underlying ht]
      case func a b c =>
        cases x <;> (try simp only at hr) <;> (try (cases hr; done))
        all_goals (cases y <;> (try simp only at hr) <;> (try (cases hr; done)))
        all_goals (simp only [RV] at hx hy)
        all_goals (cases hr)
        · obtain ⟨x, y, rfl, _⟩ := hx; subst hy
          simp [Op.equalIn, run_underlying ht]
        · obtain ⟨x, y, rfl, _⟩ := hy; subst hx
          simp [Op.equalIn, run_underlying ht]
        · subst hx hy
          simp [Op.equalIn, run_underlying ht]
end

end Go.Vm
end
section
namespace Go.Vm

section
variable {P : Program} {W0 : World} {base : Nat} {σ : Sig} {h : T Obj} {next : Pos} {w : World}

theorem RV.nilIface_inv {σ : Sig} {x : AV} (hx : RV σ x .nilIface) : x = .niliface := by
  cases x <;> simp only [RV] at hx <;> first
    | rfl
    | (cases hx; done)
    | (obtain ⟨a, b⟩ := hx; simp_all; done)
    | (obtain ⟨a, b, c⟩ := hx; simp_all; done)
    | (obtain ⟨a, b, c, d⟩ := hx; simp_all; done)
theorem RV.agg_inv {σ : Sig} {x : AV} {cs : Array Value} (hx : RV σ x (.agg cs)) : ∃ l, x = .agg l := by
  cases x <;> simp only [RV] at hx <;> first
    | exact ⟨_, rfl⟩
    | (cases hx; done)
    | (obtain ⟨a, b⟩ := hx; simp_all; done)
    | (obtain ⟨a, b, c⟩ := hx; simp_all; done)
    | (obtain ⟨a, b, c, d⟩ := hx; simp_all; done)
theorem RV.int_inv {σ : Sig} {x : AV} {k : IntKind} {n : Int} (hx : RV σ x (.int k n)) : x = .int k n := by
  cases x <;> simp only [RV] at hx <;> first
    | (cases hx; rfl)
    | (cases hx; done)
    | (obtain ⟨a, b⟩ := hx; simp_all; done)
    | (obtain ⟨a, b, c⟩ := hx; simp_all; done)
    | (obtain ⟨a, b, c, d⟩ := hx; simp_all; done)
theorem RV.string_inv {σ : Sig} {x : AV} {s : ByteArray} (hx : RV σ x (.string s)) : x = .str (encS s) := by
  cases x <;> simp only [RV] at hx <;> first
    | (cases hx; done)
    | (obtain ⟨a, b, c⟩ := hx; cases b; subst c; rfl)
    | (obtain ⟨a, b⟩ := hx; simp_all; done)
    | (obtain ⟨a, b, c⟩ := hx; simp_all; done)
    | (obtain ⟨a, b, c, d⟩ := hx; simp_all; done)
theorem RV.not_float {σ : Sig} {x : AV} {k : FloatKind} {n : Nat} (hx : RV σ x (.float k n)) : False := by
  cases x <;> simp only [RV] at hx <;> first
    | (cases hx; done)
    | (obtain ⟨a, b⟩ := hx; simp_all; done)
    | (obtain ⟨a, b, c⟩ := hx; simp_all; done)
    | (obtain ⟨a, b, c, d⟩ := hx; simp_all; done)
theorem RV.not_complex {σ : Sig} {x : AV} {k : FloatKind} {n m : Nat} (hx : RV σ x (.complex k n m)) : False := by
  cases x <;> simp only [RV] at hx <;> first
    | (cases hx; done)
    | (obtain ⟨a, b⟩ := hx; simp_all; done)
    | (obtain ⟨a, b, c⟩ := hx; simp_all; done)
    | (obtain ⟨a, b, c, d⟩ := hx; simp_all; done)

theorem isConstOp_eq (x : Operand) : (match x with | .const _ => true | _ => false) = isConstOp x := by cases x <;> rfl

theorem eqGuard_other {op : BinOp} {t : TypeId} {X Y : Operand} {u v : Value} (h1 : op ≠ .eql) (h2 : op ≠ .neq) : eqGuard op t X Y u v = pure () := by
  cases op <;> first
    | exact absurd rfl h1
    | exact absurd rfl h2
    | rfl
theorem eqGuard_plain {op : BinOp} {t : TypeId} {X Y : Operand} {u v : Value} (h1 : ¬ (u = .nilIface ∧ v = .nilIface)) (h2 : ∀ a b, ¬ (u = .agg a ∧ v = .agg b)) : eqGuard op t X Y u v = pure () := by
  by_cases e1 : op = .eql
  · subst e1
    unfold eqGuard
    dsimp only
    simp only [Bool.not_true, Bool.false_eq_true, if_false]
    split
    · exact absurd ⟨rfl, rfl⟩ h1
    · exact absurd ⟨rfl, rfl⟩ (h2 _ _)
    · rfl
  · by_cases e2 : op = .neq
    · subst e2
      unfold eqGuard
      dsimp only
      simp only [Bool.not_true, Bool.false_eq_true, if_false]
      split
      · exact absurd ⟨rfl, rfl⟩ h1
      · exact absurd ⟨rfl, rfl⟩ (h2 _ _)
      · rfl
    · exact eqGuard_other e1 e2
theorem eqGuard_nil {op : BinOp} {t : TypeId} {X Y : Operand} (h : (isConstOp X || isConstOp Y) = true) : eqGuard op t X Y .nilIface .nilIface = pure () := by
  cases X <;> cases Y <;> cases op <;> first
    | rfl
    | (simp [isConstOp] at h; done)
theorem eqGuard_agg {op : BinOp} {t : TypeId} {X Y : Operand} {a b : Array Value} (h : P.eqGuardType P.depth t = false) : (eqGuard op t X Y (.agg a) (.agg b)).run P w = .ok () w := by
  cases op <;> first
    | rfl
    | (unfold eqGuard
       simp [h])
/-- The guard of a comparison lets it pass. -/
theorem eqGuard_sound {op : BinOp} {t : TypeId} {X Y : Operand} {x y : AV} {u v : Value} (hx : RV σ x u) (hy : RV σ y v)
    (hg : guardEq P t (isConstOp X || isConstOp Y) x y = true) : (eqGuard op t X Y u v).run P w = .ok () w := by
  by_cases h1 : u = .nilIface ∧ v = .nilIface
  · obtain ⟨rfl, rfl⟩ := h1
    have e1 := hx.nilIface_inv
    have e2 := hy.nilIface_inv
    subst e1 e2
    rw [eqGuard_nil hg]; rfl
  · by_cases h2 : ∃ a b, u = .agg a ∧ v = .agg b
    · obtain ⟨a, b, rfl, rfl⟩ := h2
      obtain ⟨l1, rfl⟩ := hx.agg_inv
      obtain ⟨l2, rfl⟩ := hy.agg_inv
      simp only [guardEq] at hg
      exact eqGuard_agg (by simpa using hg)
    · rw [eqGuard_plain h1 (fun a b hab => h2 ⟨a, b, hab⟩)]; rfl

theorem binOp_eql' {t : TypeId} {u v : Value} (hi : ∀ k a j b, ¬ (u = .int k a ∧ v = .int j b)) (hf : ∀ k a j b, ¬ (u = .float k a ∧ v = .float j b))
    (hc : ∀ k a b j c d, ¬ (u = .complex k a b ∧ v = .complex j c d)) (hs : ∀ a b, ¬ (u = .string a ∧ v = .string b)) :
    binOp .eql t u v = (do pure (.bool (← Op.equal t u v))) ∧ binOp .neq t u v = (do pure (.bool (!(← Op.equal t u v)))) := by
  cases u <;> cases v <;> first
    | exact ⟨rfl, rfl⟩
    | exact absurd ⟨rfl, rfl⟩ (hi _ _ _ _)
    | exact absurd ⟨rfl, rfl⟩ (hf _ _ _ _)
    | exact absurd ⟨rfl, rfl⟩ (hc _ _ _ _ _ _)
    | exact absurd ⟨rfl, rfl⟩ (hs _ _)
theorem binOp_eql {t : TypeId} {x y : AV} {u v : Value} (hx : RV σ x u) (hy : RV σ y v) (hi : ∀ k a j b, ¬ (x = .int k a ∧ y = .int j b)) (hs : ∀ a b, ¬ (x = .str a ∧ y = .str b)) :
    binOp .eql t u v = (do pure (.bool (← Op.equal t u v))) ∧ binOp .neq t u v = (do pure (.bool (!(← Op.equal t u v)))) := by
  refine binOp_eql' ?_ ?_ ?_ ?_
  · rintro k a j b ⟨rfl, rfl⟩; exact hi _ _ _ _ ⟨hx.int_inv, hy.int_inv⟩
  · rintro k a j b ⟨rfl, rfl⟩; exact hx.not_float
  · rintro k a b j c d ⟨rfl, rfl⟩; exact hx.not_complex
  · rintro a b ⟨rfl, rfl⟩; exact hs _ _ ⟨hx.string_inv, hy.string_inv⟩

theorem binA_sound (H : WR W0 base σ h next w) {op : BinOp} {t : TypeId} {X Y : Operand} {x y r : AV} {u v : Value} (hx : RV σ x u) (hy : RV σ y v)
    (hb : binA P h op t (isConstOp X || isConstOp Y) x y = some r) : ∃ q, (do eqGuard op t X Y u v; binOp op t u v : Sem Value).run P w = .ok q w ∧ RV σ r q := by
  unfold binA at hb
  split at hb
  · rename_i k a j b
    simp only [RV] at hx hy
    subst hx hy
    have hgd : (eqGuard op t X Y (.int k a) (.int j b)).run P w = .ok () w := eqGuard_sound (P := P) (σ := σ) (x := .int k a) (y := .int j b) (by simp only [RV]) (by simp only [RV]) rfl
    have hr : intOp op k a b = some r ∧ (isShift op = false → j = k) := by
      cases hs : isShift op with
      | true => rw [hs] at hb; exact ⟨hb, fun h => by cases h⟩
      | false =>
        rw [hs] at hb
        simp only at hb
        cases hk : kindEq k j with
        | false => rw [hk] at hb; cases hb
        | true => rw [hk] at hb; exact ⟨hb, fun _ => (kindEq_eq hk).symm⟩
    obtain ⟨q, h1, h2⟩ := intOp_sound (P := P) (w := w) (t := t) hr.1 j hr.2
    exact ⟨q, by rw [Sem.run_bind, hgd]; exact h1, h2 σ⟩
  · rename_i a b
    simp only [RV] at hx hy
    obtain ⟨s, rfl, hs⟩ := hx
    obtain ⟨s', rfl, hs'⟩ := hy
    have hgd : (eqGuard op t X Y (.string s) (.string s')).run P w = .ok () w :=
      eqGuard_sound (P := P) (σ := σ) (x := .str a) (y := .str b) (by simp only [RV]; exact ⟨s, rfl, hs⟩) (by simp only [RV]; exact ⟨s', rfl, hs'⟩) rfl
    obtain ⟨q, h1, h2⟩ := strOp_sound (P := P) (w := w) (t := t) hs hs' hb
    exact ⟨q, by rw [Sem.run_bind, hgd]; exact h1, h2 σ⟩
  · rename_i x' y' hni hns
    have hi : ∀ k a j b, ¬ (x = .int k a ∧ y = .int j b) := fun k a j b ⟨e1, e2⟩ => hni _ _ _ _ e1 e2
    have hs : ∀ a b, ¬ (x = .str a ∧ y = .str b) := fun a b ⟨e1, e2⟩ => hns _ _ e1 e2
    obtain ⟨b1, b2⟩ := binOp_eql (t := t) hx hy hi hs
    split at hb
    · cases hg : guardEq P t (isConstOp X || isConstOp Y) x y with
      | false => rw [hg] at hb; cases hb
      | true =>
        rw [hg] at hb
        simp only at hb
        cases he : eqA P h 8 t x y with
        | none => rw [he] at hb; cases hb
        | some b =>
          rw [he] at hb; cases hb
          have hgd := eqGuard_sound (P := P) (w := w) (op := .eql) (X := X) (Y := Y) hx hy hg
          have heq := eqA_sound (P := P) H 8 Op.maxDepth t x y b u v (by unfold Op.maxDepth; omega) he hx hy
          refine ⟨.bool b, ?_, by simp only [RV]⟩
          rw [Sem.run_bind, hgd, Result.andThen_ok, b1, Sem.run_bind]
          unfold Op.equal
          rw [heq]; rfl
    · cases hg : guardEq P t (isConstOp X || isConstOp Y) x y with
      | false => rw [hg] at hb; cases hb
      | true =>
        rw [hg] at hb
        simp only at hb
        cases he : eqA P h 8 t x y with
        | none => rw [he] at hb; cases hb
        | some b =>
          rw [he] at hb; cases hb
          have hgd := eqGuard_sound (P := P) (w := w) (op := .neq) (X := X) (Y := Y) hx hy hg
          have heq := eqA_sound (P := P) H 8 Op.maxDepth t x y b u v (by unfold Op.maxDepth; omega) he hx hy
          refine ⟨.bool (!b), ?_, by simp only [RV]⟩
          rw [Sem.run_bind, hgd, Result.andThen_ok, b2, Sem.run_bind]
          unfold Op.equal
          rw [heq]; rfl
    · cases hb
end

end Go.Vm
end
section
namespace Go.Vm

theorem foldl_put (off : Nat) : ∀ (l : List Value) (n : Nat) (C : Array Value), off + n + l.length ≤ C.size →
    ((l.zipIdx n).foldl (fun cs (x : Value × Nat) => cs.setIfInBounds (off + x.2) x.1) C).size = C.size ∧
    ∀ d, ((l.zipIdx n).foldl (fun cs (x : Value × Nat) => cs.setIfInBounds (off + x.2) x.1) C)[d]? = if off + n ≤ d ∧ d < off + n + l.length then l[d - (off + n)]? else C[d]?
  | [], n, C, _ => by
    refine ⟨rfl, fun d => ?_⟩
    rw [if_neg (by simp only [List.length_nil]; omega)]; rfl
  | x :: l, n, C, h => by
    simp only [List.zipIdx_cons, List.foldl_cons]
    simp only [List.length_cons] at h
    obtain ⟨h1, h2⟩ := foldl_put off l (n + 1) (C.setIfInBounds (off + n) x) (by simp; omega)
    refine ⟨by rw [h1]; simp, fun d => ?_⟩
    rw [h2 d]
    simp only [List.length_cons]
    by_cases hd : d = off + n
    · subst hd
      rw [if_neg (by omega), if_pos (by omega)]
      have : off + n < C.size := by omega
      simp [this]
    · by_cases hin : off + (n + 1) ≤ d ∧ d < off + (n + 1) + l.length
      · rw [if_pos hin, if_pos (by omega)]
        have : d - (off + n) = (d - (off + (n + 1))) + 1 := by omega
        rw [this]; rfl
      · rw [if_neg hin, if_neg (by omega), Array.getElem?_setIfInBounds, if_neg (by omega)]

theorem fillA_sound {σ : Sig} {pa pc : Nat → Option (Nat × Nat)} (hp : ∀ i x, pa i = some x → pc i = some x) : ∀ (ps : List (Nat × AV)) (l : List (Nat × Value)) (cs : List AV) (C : Array Value) (cs' : List AV),
    PR σ ps l → RVs σ cs C.toList → fillA pa ps cs = some cs' → ∃ C', Instr.fill pc C l = some C' ∧ RVs σ cs' C'.toList
  | [], l, cs, C, cs', h1, h2, h3 => by
    simp only [PR] at h1
    subst h1
    simp only [fillA, Option.some.injEq] at h3
    subst h3
    exact ⟨C, rfl, h2⟩
  | (i, a) :: ps, l, cs, C, cs', h1, h2, h3 => by
    obtain ⟨v, l', rfl, hr, h1⟩ := h1
    simp only [fillA] at h3
    cases e1 : pa i with
    | none => rw [e1] at h3; cases h3
    | some os =>
      obtain ⟨off, size⟩ := os
      rw [e1] at h3
      simp only at h3
      cases e2 : Nat.beq (len a.cells) size with
      | false => rw [e2] at h3; cases h3
      | true =>
        rw [e2] at h3
        simp only at h3
        cases e3 : putAt off cs a.cells with
        | none => rw [e3] at h3; cases h3
        | some k =>
          rw [e3] at h3
          simp only at h3
          obtain ⟨p1, p2, p3⟩ := putAt_eq _ _ _ _ e3
          have hsz : v.cells.size = size := by rw [hr.cells_size]; exact Nat.eq_of_beq_eq_true e2
          have hlen : a.cells.length = v.cells.size := by have := RVs.length hr.cells; simpa using this
          have hlc : cs.length = C.size := by have := RVs.length h2; simpa using this
          have hf : v.cells.zipIdx.foldl (fun cs (x : Value × Nat) => cs.setIfInBounds (off + x.2) x.1) C = (v.cells.toList.zipIdx 0).foldl (fun cs (x : Value × Nat) => cs.setIfInBounds (off + x.2) x.1) C := by
            rw [← Array.foldl_toList, Array.toList_zipIdx]
          obtain ⟨f1, f2⟩ := foldl_put off v.cells.toList 0 C (by simp; omega)
          generalize hK : (v.cells.toList.zipIdx 0).foldl (fun cs (x : Value × Nat) => cs.setIfInBounds (off + x.2) x.1) C = K at *
          have hrK : RVs σ k K.toList := by
            refine RVs.of_get (by simp [p2, hlc, f1]) ?_
            intro d x u hx hu
            rw [p3 d] at hx
            rw [Array.getElem?_toList, f2 d] at hu
            simp only [Nat.add_zero, Array.length_toList] at hu
            by_cases hin : off ≤ d ∧ d < off + a.cells.length
            · rw [if_pos hin] at hx
              rw [if_pos (by omega)] at hu
              obtain ⟨u', hu', hru⟩ := hr.cells.get _ _ hx
              rw [hu'] at hu; cases hu; exact hru
            · rw [if_neg hin] at hx
              rw [if_neg (by omega)] at hu
              obtain ⟨u', hu', hru⟩ := h2.get _ _ hx
              rw [Array.getElem?_toList, hu] at hu'; cases hu'; exact hru
          obtain ⟨C', g1, g2⟩ := fillA_sound hp ps l' k K cs' h1 hrK h3
          refine ⟨C', ?_, g2⟩
          simp only [Instr.fill, hp i _ e1]
          rw [if_neg (by simp [hsz]; omega)]
          rw [hf]; exact g1

section
variable {P : Program} {W0 : World} {base : Nat} {σ : Sig} {h : T Obj} {next : Pos} {w : World}

theorem placesA_sound : ∀ (fs : List Field) (pl : List (Nat × Nat)), placesA P fs = some pl →
    (fs.mapM (m := Sem) fun f => do pure (f.offset, ← sizeOf f.type)).run P w = .ok pl w
  | [], pl, hp => by simp only [placesA, Option.some.injEq] at hp; subst hp; rfl
  | f :: fs, pl, hp => by
    simp only [placesA] at hp
    cases e1 : szA P f.type with
    | none => rw [e1] at hp; cases hp
    | some s =>
      rw [e1] at hp
      simp only at hp
      cases e2 : placesA P fs with
      | none => rw [e2] at hp; cases hp
      | some k =>
        rw [e2] at hp; cases hp
        have ih := placesA_sound fs k e2
        rw [List.mapM_cons]
        simp only [Sem.run_bind, run_szA e1, Result.andThen_ok, Sem.run_pure, ih]

theorem build_sound {t : TypeId} {ps : List (Nat × AV)} {l : List (Nat × Value)} (hps : PR σ ps l) {z : AV} (hz : zeroA P t = some z) {cs : List AV}
    (hb : (match P.underlying t with
      | some (.struct fields) => match placesA P fields.toList with
        | some pl => fillA (fun i => nth i pl) ps z.cells
        | none => none
      | some (.array _ e) => match szA P e with
        | some s => fillA (fun i => some (Nat.mul i s, s)) ps z.cells
        | none => none
      | _ => none) = some cs) : ∃ u, (Instr.build t l.toArray).run P w = .ok u w ∧ RV σ (.agg cs) u := by
  obtain ⟨Z, hZ, hzr⟩ := run_zeroA (P := P) (w := w) σ hz
  cases ht : P.underlying t with
  | none => rw [ht] at hb; cases hb
  | some d =>
    rw [ht] at hb
    cases d <;> simp only at hb <;> try (cases hb; done)
    · rename_i n e
      cases e1 : szA P e with
      | none => rw [e1] at hb; cases hb
      | some s =>
        rw [e1] at hb
        simp only at hb
        obtain ⟨C', g1, g2⟩ := fillA_sound (σ := σ) (pa := fun i => some (Nat.mul i s, s)) (pc := fun i => some (i * s, s)) (fun i x hx => hx) ps l _ Z.cells cs hps hzr.cells hb
        refine ⟨.agg C', ?_, by simp only [RV]; exact ⟨C'.toList, rfl, g2⟩⟩
        simp [Instr.build, hZ, run_underlying ht, run_szA e1, g1]
    · rename_i fields
      cases e1 : placesA P fields.toList with
      | none => rw [e1] at hb; cases hb
      | some pl =>
        rw [e1] at hb
        simp only at hb
        obtain ⟨C', g1, g2⟩ := fillA_sound (σ := σ) (pa := fun i => nth i pl) (pc := fun i => pl.toArray[i]?) (fun i x hx => by rw [nth_eq] at hx; simpa using hx) ps l _ Z.cells cs hps hzr.cells hb
        refine ⟨.agg C', ?_, by simp only [RV]; exact ⟨C'.toList, rfl, g2⟩⟩
        have hm := placesA_sound (P := P) (w := w) _ _ e1
        simp only [Instr.build, Sem.run_bind, hZ, Result.andThen_ok, run_underlying ht, Array.mapM_eq_mapM_toList, Sem.run_map, hm]
        simp only [g1]
        rfl
end

end Go.Vm
end
section
namespace Go.Vm

section
variable {P : Program} {W0 : World} {base : Nat} {σ : Sig} {h : T Obj} {next : Pos} {w : World}

/-! ### slices -/
/-- a bound: a number, or none -/
inductive BR (σ : Sig) : Option AV → Option Value → Prop
  | none : BR σ none none
  | some {a : AV} {v : Value} (hr : RV σ a v) : BR σ (some a) (some v)
theorem natOf_inv {o : Option AV} {v : Option Value} {n : Option Nat} (hb : BR σ o v) (hn : natOf o = some n) :
    (n = none ∧ v = none) ∨ ∃ k m, n = some m ∧ v = some (.int k (m : Int)) := by
  cases hb with
  | none => simp only [natOf, Option.some.injEq] at hn; exact .inl ⟨hn.symm, rfl⟩
  | some hr =>
    rename_i a u
    cases a <;> simp only [natOf] at hn <;> (try (cases hn; done))
    rename_i k i
    cases i with
    | negSucc _ => cases hn
    | ofNat m =>
      cases hn
      simp only [RV] at hr
      subst hr
      exact .inr ⟨k, m, rfl, rfl⟩
theorem bounds_sound {b : Bool} {len cap : Nat} {lo hi : Option Nat} {l u : Option Value}
    (hl : (lo = none ∧ l = none) ∨ ∃ k m, lo = some m ∧ l = some (.int k (m : Int))) (hu : (hi = none ∧ u = none) ∨ ∃ k m, hi = some m ∧ u = some (.int k (m : Int)))
    (h1 : orD lo 0 ≤ orD hi len) (h2 : orD hi len ≤ cap) : (Instr.sliceBounds b len cap l u none).run P w = .ok (orD lo 0, orD hi len, cap) w := by
  rcases hl with ⟨rfl, rfl⟩ | ⟨k, m, rfl, rfl⟩ <;> rcases hu with ⟨rfl, rfl⟩ | ⟨k', m', rfl, rfl⟩
  · simp [Instr.sliceBounds, orD]
  · simp only [orD] at h1 h2
    have : (m' : Int) ≤ (cap : Int) := by omega
    simp [Instr.sliceBounds, Instr.sliceBound, asIntOf, orD, this, h2]
  · simp only [orD] at h1 h2
    simp [Instr.sliceBounds, Instr.sliceBound, asIntOf, orD, h1]
  · simp only [orD] at h1 h2
    simp [Instr.sliceBounds, Instr.sliceBound, asIntOf, orD, h1, h2]

theorem slice_sound {t : TypeId} {x v : AV} {u : Value} {lo hi : Option AV} {l r : Option Value} (hx : RV σ x u) (hlo : BR σ lo l) (hhi : BR σ hi r) (hs : sliceA P t x lo hi = some v) :
    ∃ q, (Instr.sliceAt t u l r none).run P w = .ok q w ∧ RV σ v q := by
  unfold sliceA at hs
  cases e1 : natOf lo with
  | none => rw [e1] at hs; cases hs
  | some lo' =>
    cases e2 : natOf hi with
    | none => rw [e1, e2] at hs; cases hs
    | some hi' =>
      rw [e1, e2] at hs
      simp only at hs
      have b1 := natOf_inv hlo e1
      have b2 := natOf_inv hhi e2
      cases ht : P.underlying t with
      | none => rw [ht] at hs; cases hs
      | some d =>
        rw [ht] at hs
        cases d <;> (try simp only at hs) <;> (try (cases hs; done))
        · -- string
          cases x <;> (try simp only at hs) <;> (try (cases hs; done))
          rename_i s
          simp only [RV] at hx
          obtain ⟨S, rfl, rfl⟩ := hx
          rw [slen_encS] at hs
          cases e3 : Nat.ble (orD lo' 0) (orD hi' S.size) with
          | false => rw [e3] at hs; cases hs
          | true =>
            rw [e3] at hs
            simp only at hs
            cases e4 : Nat.ble (orD hi' S.size) S.size with
            | false => rw [e4] at hs; cases hs
            | true =>
              rw [e4] at hs; cases hs
              have h3 := Nat.le_of_ble_eq_true e3
              have h4 := Nat.le_of_ble_eq_true e4
              have hb := bounds_sound (P := P) (w := w) (b := false) b1 b2 h3 h4
              refine ⟨.string (S.extract (orD lo' 0) (orD hi' S.size)), ?_, ?_⟩
              · simp [Instr.sliceAt, Instr.slice, run_underlying ht, hb]
              · simp only [RV]; exact ⟨_, rfl, (sext_enc S _ _ h3 h4).symm⟩
        · rename_i e
          cases x <;> (try simp only at hs) <;> (try (cases hs; done))
          · rename_i g ve c n cap es
            simp only [RV] at hx
            obtain ⟨a, cap', rfl, hn, hcap, L, hL, h5, hplace⟩ := hx
            cases ez : szA P e with
            | none => rw [ez] at hs; cases hs
            | some size =>
              rw [ez] at hs
              simp only at hs
              cases ee : Nat.beq size es with
              | false => rw [ee] at hs; cases hs
              | true =>
                have := Nat.eq_of_beq_eq_true ee
                subst this
                rw [ee] at hs
                simp only at hs
                cases e3 : Nat.ble (orD lo' 0) (orD hi' n) with
                | false => rw [e3] at hs; cases hs
                | true =>
                  have h3 := Nat.le_of_ble_eq_true e3
                  rw [e3] at hs
                  simp only at hs
                  -- the concrete slice, once the bounds hold
                  have conc : orD hi' n ≤ cap' → (Instr.sliceAt t (.slice (some a) n cap') l r none).run P w =
                      .ok (.slice (if cap' = orD lo' 0 then some a else some (a.add (orD lo' 0 * size))) (orD hi' n - orD lo' 0) (cap' - orD lo' 0)) w := by
                    intro h4
                    have hb := bounds_sound (P := P) (w := w) (b := true) b1 b2 h3 h4
                    simp [Instr.sliceAt, Instr.slice, run_underlying ht, hb, run_szA ez]
                  -- what it says
                  have says : ∀ (k : Option Nat), orD hi' n ≤ cap' → (∀ q, k = some q → cap' - orD lo' 0 = q) → cap' ≠ orD lo' 0 →
                      RV σ (.slice g ve (Nat.add c (Nat.mul (orD lo' 0) size)) (Nat.sub (orD hi' n) (orD lo' 0)) k size) (.slice (some (a.add (orD lo' 0 * size))) (orD hi' n - orD lo' 0) (cap' - orD lo' 0)) := by
                    intro k h4 hk hne
                    simp only [RV]
                    refine ⟨_, _, rfl, by show orD hi' n - orD lo' 0 ≤ _; omega, hk, ?_⟩
                    refine ⟨L, hL, by show L.c0 ≤ c + orD lo' 0 * size; omega, ?_⟩
                    rcases hplace with ⟨h5, h6⟩ | ⟨h6, h7⟩
                    · exfalso; omega
                    · refine .inr ⟨?_, ?_⟩
                      · rw [h6]; exact Loc.addr_plus L c _ h5
                      · show L.off + (c + orD lo' 0 * size - L.c0) + (cap' - orD lo' 0) * size ≤ L.lim
                        have h8 : (cap' - orD lo' 0) * size + orD lo' 0 * size = cap' * size := by rw [← Nat.add_mul]; congr 1; omega
                        omega
                  cases cap with
                  | some k =>
                    have hk := hcap k rfl
                    simp only at hs
                    cases e4 : Nat.ble (orD hi' n) k with
                    | false => rw [e4] at hs; cases hs
                    | true =>
                      have h4 : orD hi' n ≤ cap' := by have := Nat.le_of_ble_eq_true e4; omega
                      rw [e4] at hs
                      simp only at hs
                      cases e5 : Nat.beq k (orD lo' 0) with
                      | true =>
                        have h9 : cap' = orD lo' 0 := by have := Nat.eq_of_beq_eq_true e5; omega
                        rw [e5] at hs; cases hs
                        refine ⟨_, conc h4, ?_⟩
                        rw [if_pos h9]
                        simp only [RV]
                        exact ⟨a, cap' - orD lo' 0, by congr 1; omega, by omega, (fun q hq => by cases hq; omega), L, hL, h5, .inl ⟨trivial, by omega⟩⟩
                      | false =>
                        have h5 : cap' ≠ orD lo' 0 := by have := Nat.ne_of_beq_eq_false e5; omega
                        rw [e5] at hs; cases hs
                        refine ⟨_, conc h4, ?_⟩
                        rw [if_neg h5]
                        exact says _ h4 (fun q hq => by cases hq; show cap' - _ = k - _; omega) h5
                  | none =>
                    simp only at hs
                    cases e4 : Nat.ble (orD hi' n) n with
                    | false => rw [e4] at hs; cases hs
                    | true =>
                      have h4 : orD hi' n ≤ cap' := by have := Nat.le_of_ble_eq_true e4; omega
                      rw [e4] at hs; cases hs
                      refine ⟨_, conc h4, ?_⟩
                      by_cases h5 : cap' = orD lo' 0
                      · rw [if_pos h5]
                        simp only [RV]
                        refine ⟨a, cap' - orD lo' 0, rfl, by show orD hi' n - orD lo' 0 ≤ _; omega, (fun q hq => by cases hq), L, hL, by show L.c0 ≤ c + orD lo' 0 * size; omega, .inl ⟨?_, by omega⟩⟩
                        show orD hi' n - orD lo' 0 = 0
                        omega
                      · rw [if_neg h5]
                        exact says _ h4 (fun q hq => by cases hq) h5
          · simp only [RV] at hx
            subst hx
            cases e3 : orD lo' 0 with
            | succ _ => rw [e3] at hs; cases hs
            | zero =>
              cases e4 : orD hi' 0 with
              | succ _ => rw [e3, e4] at hs; cases hs
              | zero =>
                rw [e3, e4] at hs
                cases ez : szA P e with
                | none => rw [ez] at hs; cases hs
                | some size =>
                  rw [ez] at hs; cases hs
                  have hb := bounds_sound (P := P) (w := w) (b := true) (len := 0) (cap := 0) b1 b2 (by omega) (by omega)
                  rw [e3, e4] at hb
                  refine ⟨.slice none 0 0, ?_, by simp only [RV]⟩
                  simp [Instr.sliceAt, Instr.slice, run_underlying ht, hb, run_szA ez]

/-! ### maps -/
theorem plainKey_check {kd : TypeDesc} {kt : TypeId} (hk : P.underlying kt = some kd) (hp : plainKey kd = true) (b : Bool) (v : Value) : (Instr.checkKey b 10000 kt v).run P w = .ok () w := by
  unfold Instr.checkKey
  simp only [Sem.run_bind, run_underlying hk, Result.andThen_ok]
  cases kd <;> simp only [plainKey] at hp <;> first
    | (cases hp; done)
    | (cases v <;> rfl)
theorem eqKey_now {kd : TypeDesc} {x y : AV} {u v : Value} {b : Bool} (hx : RV σ x u) (hy : RV σ y v) (he : eqKey kd x y = some b) : Instr.sameNow kd u v = some b ∧ (b = true → u = v) := by
  cases kd <;> simp only [eqKey] at he <;> (try (cases he; done))
  · cases x <;> (try simp only at he) <;> (try (cases he; done))
    cases y <;> (try simp only at he) <;> (try (cases he; done))
    simp only [RV] at hx hy
    subst hx hy
    rename_i k a k' b
    cases hk : kindEq k k' with
    | false => rw [hk] at he; cases he
    | true =>
      have := kindEq_eq hk
      subst this
      rw [hk] at he; cases he
      rw [intEq_eq]
      refine ⟨by simp [Instr.sameNow], fun h => by congr 1; simpa using h⟩
  · cases x <;> (try simp only at he) <;> (try (cases he; done))
    cases y <;> (try simp only at he) <;> (try (cases he; done))
    simp only [RV] at hx hy
    obtain ⟨s, rfl, rfl⟩ := hx
    obtain ⟨s', rfl, rfl⟩ := hy
    cases he
    rw [encS_beq]
    refine ⟨rfl, fun h => ?_⟩
    rw [bytes_beq] at h
    congr 1; simpa using h
theorem findA_sound {kd : TypeDesc} {k : AV} {K : Value} (hk : RV σ k K) : ∀ (es : List (AV × AV)) (l : List MapEntry) (i : Nat) (r : Option AV), MR σ es l → findA (eqKey kd) k es = some r →
    (r = none ∧ Instr.findNow kd K l i = some none) ∨ ∃ v u j, r = some v ∧ RV σ v u ∧ Instr.findNow kd K l i = some (some (j, u))
  | [], l, i, r, hm, hf => by
    simp only [MR] at hm; subst hm
    simp only [findA, Option.some.injEq] at hf
    exact .inl ⟨hf.symm, rfl⟩
  | (x, v) :: es, l, i, r, hm, hf => by
    obtain ⟨e, l', rfl, h1, h2, h3⟩ := hm
    simp only [findA] at hf
    cases hb : eqKey kd k x with
    | none => rw [hb] at hf; cases hf
    | some b =>
      obtain ⟨hn, _⟩ := eqKey_now hk h1 hb
      rw [hb] at hf
      cases b with
      | true =>
        cases hf
        exact .inr ⟨v, e.val, i, rfl, h2, by simp [Instr.findNow, hn]⟩
      | false =>
        simp only at hf
        have ih := findA_sound hk es l' (i + 1) r h3 hf
        simpa [Instr.findNow, hn] using ih
end

end Go.Vm
end
section
namespace Go.Vm

section
variable {P : Program} {W0 : World} {base : Nat} {σ : Sig} {h : T Obj} {next : Pos} {w : World}

theorem map_list {α β : Type} (a : Array α) (f : α → β) : a.map f = (a.toList.map f).toArray := by
  rw [← Array.toList_map, Array.toArray_toList]
theorem maxA_sound (less : Bool) (k : IntKind) : ∀ (l : List AV) (a r : Int) (vs : List Value), RVs σ l vs → maxA less k l a = some r →
    (vs.foldlM (match less with | true => Builtin.min2 | false => Builtin.max2) (.int k a)).run P w = .ok (.int k r) w
  | [], a, r, vs, hr, hm => by
    rw [RVs.nil_inv hr]
    simp only [maxA, Option.some.injEq] at hm
    subst hm; rfl
  | x :: l, a, r, vs, hr, hm => by
    obtain ⟨v, vs', rfl, h1, h2⟩ := RVs.cons_inv hr
    cases x <;> (try simp only [maxA] at hm) <;> (try (cases hm; done))
    rename_i j b
    simp only [RV] at h1
    subst h1
    rw [List.foldlM_cons]
    cases less with
    | true =>
      simp only at hm ⊢
      rw [intLt_eq] at hm
      by_cases hb : b < a
      · rw [decide_eq_true hb] at hm
        have ih := maxA_sound true k l b r vs' h2 hm
        simp only at ih
        simp [Builtin.min2, hb, ih]
      · rw [decide_eq_false hb] at hm
        have ih := maxA_sound true k l a r vs' h2 hm
        simp only at ih
        simp [Builtin.min2, hb, ih]
    | false =>
      simp only at hm ⊢
      rw [intLt_eq] at hm
      by_cases hb : a < b
      · rw [decide_eq_true hb] at hm
        have ih := maxA_sound false k l b r vs' h2 hm
        simp only at ih
        simp [Builtin.max2, hb, ih]
      · rw [decide_eq_false hb] at hm
        have ih := maxA_sound false k l a r vs' h2 hm
        simp only at ih
        simp [Builtin.max2, hb, ih]

theorem lenA_sound (H : WR W0 base σ h next w) {t ty : TypeId} {x v : AV} {u : Value} {ts : List TypeId} {us : List Value} (hx : RV σ x u) (hl : lenA P h t x = some v) :
    ∃ q, (Builtin.len_ (t :: ts).toArray ty (u :: us).toArray).run P w = .ok q w ∧ RV σ v q := by
  unfold lenA at hl
  split at hl
  · rename_i s e
    simp only [RV] at hx
    obtain ⟨S, rfl, rfl⟩ := hx
    cases hl
    exact ⟨_, by simp [Builtin.len_, run_underlying e]; rfl, by simp only [RV, goInt, slen_encS]; try rfl⟩
  · rename_i e
    simp only [RV] at hx
    obtain ⟨a, c, rfl, _⟩ := hx
    cases hl
    exact ⟨_, by simp [Builtin.len_, run_underlying e]; rfl, by simp only [RV, goInt]; try rfl⟩
  · rename_i e
    simp only [RV] at hx
    subst hx
    cases hl
    exact ⟨_, by simp [Builtin.len_, run_underlying e]; rfl, by simp only [RV, goInt]; try rfl⟩
  · rename_i e
    simp only [RV] at hx
    subst hx
    cases hl
    exact ⟨_, by simp [Builtin.len_, run_underlying e]; rfl, by simp only [RV, goInt]; try rfl⟩
  · rename_i g e
    simp only [RV] at hx
    obtain ⟨L, hL, rfl⟩ := hx
    split at hl
    · rename_i es hg
      cases hl
      obtain ⟨_, l, k, h1, h2⟩ := H.obj _ _ _ _ hL hg
      have hlen : es.length = l.size := by
        have : ∀ (es : List (AV × AV)) (l : List MapEntry), MR σ es l → es.length = l.length := by
          intro es
          induction es with
          | nil => intro l h; simp only [MR] at h; subst h; rfl
          | cons x es ih =>
            obtain ⟨a, b⟩ := x
            rintro l ⟨e, l', rfl, _, _, h3⟩
            simp [ih l' h3]
        simpa using this es l.toList h2.1
      exact ⟨_, by simp [Builtin.len_, run_underlying e, getObj, Sem.run, h1]; rfl, by simp only [RV, goInt, len_eq, hlen]; try rfl⟩
    · cases hl
  · rename_i n el e
    cases hl
    exact ⟨_, by simp [Builtin.len_, run_underlying e]; rfl, by simp only [RV, goInt]; try rfl⟩
  · cases hl

theorem opS_sound {E : Env} (H : WR W0 E.base σ h next w) {t : T AV} {o : Oper} {ρ : Operand → Value} {v : AV} (hE : ∀ x ∈ opsL o.op, EvOK σ E.base t ρ x) (hs : opS E h t o = some v) :
    ∃ u, (execOp ρ o).run E.P w = .ok (.value u) w ∧ RV σ v u := by
  unfold opS at hs
  cases hop : o.op <;> simp only [hop] at hs hE <;> (try (cases hs; done))
  case move x =>
    split at hs
    · rename_i a ha
      cases hs
      exact ⟨ρ x, by simp [execOp, hop], hE x (by simp [opsL]) _ ha⟩
    · cases hs
  case pick c a b =>
    split at hs
    · rename_i hc
      have h1 := hE c (by simp [opsL]) _ hc
      simp only [RV] at h1
      split at hs
      · rename_i x hx
        cases hs
        exact ⟨ρ a, by simp [execOp, hop, h1, asBool], hE a (by simp [opsL]) _ hx⟩
      · cases hs
    · rename_i hc
      have h1 := hE c (by simp [opsL]) _ hc
      simp only [RV] at h1
      split at hs
      · rename_i x hx
        cases hs
        exact ⟨ρ b, by simp [execOp, hop, h1, asBool], hE b (by simp [opsL]) _ hx⟩
      · cases hs
    · cases hs
  case build ty parts =>
    split at hs
    · rename_i z ps hz hp
      have hps := evalPs_sound parts.toList ps (fun x hx => hE x (by simpa [opsL] using hx)) hp
      have key : ∃ cs, v = .agg cs ∧ (match E.P.underlying ty with
          | some (.struct fields) => match placesA E.P fields.toList with
            | some pl => fillA (fun i => nth i pl) ps z.cells
            | none => none
          | some (.array _ e) => match szA E.P e with
            | some s => fillA (fun i => some (Nat.mul i s, s)) ps z.cells
            | none => none
          | _ => none) = some cs := by
        split at hs
        · rename_i fields hf
          split at hs
          · rename_i pl hpl
            split at hs
            · rename_i l hl
              cases hs
              exact ⟨l, rfl, by rw [hf]; simp only; rw [hpl]; exact hl⟩
            · cases hs
          · cases hs
        · rename_i n el hf
          split at hs
          · rename_i sz hsz
            split at hs
            · rename_i l hl
              cases hs
              exact ⟨l, rfl, by rw [hf]; simp only; rw [hsz]; exact hl⟩
            · cases hs
          · cases hs
        · cases hs
      obtain ⟨cs, rfl, hcs⟩ := key
      obtain ⟨u, h1, h2⟩ := build_sound (P := E.P) (w := w) hps hz hcs
      refine ⟨u, ?_, h2⟩
      simp only [execOp, hop]
      rw [map_list]
      simp only [Sem.run_bind, h1, Result.andThen_ok, Sem.run_pure]
    · cases hs
  case load ty x =>
    split at hs
    · rename_i a ha
      split at hs
      · rename_i r hr
        cases hs
        obtain ⟨ad, u, h1, h2, h3⟩ := loadA_sound (P := E.P) H (hE x (by simp [opsL]) _ ha) hr
        exact ⟨u, by simp [execOp, hop, Instr.loadAt, h1, Instr.sureAddr, h2], h3⟩
      · cases hs
    · cases hs
  case nilCheck x =>
    split at hs
    · rename_i g ve c ha
      cases hs
      have h1 := hE x (by simp [opsL]) _ ha
      have h2 := h1
      simp only [RV] at h2
      obtain ⟨L, _, _, h4⟩ := h2
      exact ⟨ρ x, by simp [execOp, hop, h4], h1⟩
    · cases hs
  case binOp op ty x y yt =>
    split at hs
    · rename_i a b ha hb
      split at hs
      · rename_i r hr
        cases hs
        obtain ⟨q, h1, h2⟩ := binA_sound (P := E.P) H (hE x (by simp [opsL]) _ ha) (hE y (by simp [opsL]) _ hb) hr
        refine ⟨q, ?_, h2⟩
        simp only [execOp, hop]
        rw [Sem.run_bind, h1]; rfl
      · cases hs
    · cases hs
  case unOp op ty x =>
    split at hs
    · rename_i b ha
      cases hs
      have h1 := hE x (by simp [opsL]) _ ha
      simp only [RV] at h1
      exact ⟨_, by simp [execOp, hop, h1, Op.unary]; rfl, by simp only [RV]⟩
    · rename_i k n ha
      cases hs
      have h1 := hE x (by simp [opsL]) _ ha
      simp only [RV] at h1
      exact ⟨_, by simp [execOp, hop, h1, Op.unary, Op.intArith]; rfl, by simp only [RV, wrapA_eq]; simp⟩
    · rename_i k n ha
      cases hs
      have h1 := hE x (by simp [opsL]) _ ha
      simp only [RV] at h1
      exact ⟨_, by simp [execOp, hop, h1, Op.unary, Op.intBits]; rfl, by simp only [RV]; simp⟩
    · cases hs
  case makeInterface ty x =>
    split at hs
    · cases hs
    · rename_i d a hni hd ha
      cases hs
      have h1 := hE x (by simp [opsL]) _ ha
      refine ⟨.iface ty (ρ x), ?_, by simp only [RV]; exact ⟨_, rfl, h1⟩⟩
      cases d <;> first
        | (exact (hni _ rfl).elim)
        | (simp [execOp, hop, Instr.makeInterface, run_underlying hd]; done)
    · cases hs
  case makeFunc fn a b =>
    split at hs
    · rename_i k x y hx hy
      cases hs
      refine ⟨.func (.func k) (a.map ρ) (b.map ρ), by simp [execOp, hop, Instr.makeFunc], ?_⟩
      simp only [RV]
      exact ⟨a.toList.map ρ, b.toList.map ρ, by rw [← map_list a ρ, ← map_list b ρ], trivial, evals_sound _ _ (fun z hz => hE z (by simp [opsL, Array.mem_toList_iff.1 hz])) hx, evals_sound _ _ (fun z hz => hE z (by simp [opsL, Array.mem_toList_iff.1 hz])) hy⟩
    · rename_i k x y hx hy
      cases hs
      refine ⟨.func (.method k) (a.map ρ) (b.map ρ), by simp [execOp, hop, Instr.makeFunc], ?_⟩
      simp only [RV]
      exact ⟨a.toList.map ρ, b.toList.map ρ, by rw [← map_list a ρ, ← map_list b ρ], trivial, evals_sound _ _ (fun z hz => hE z (by simp [opsL, Array.mem_toList_iff.1 hz])) hx, evals_sound _ _ (fun z hz => hE z (by simp [opsL, Array.mem_toList_iff.1 hz])) hy⟩
    · cases hs
  case slice ty x lo hi mx =>
    cases mx with
    | some _ => cases hs
    | none =>
      simp only at hs
      split at hs
      · rename_i a l u ha hl hu
        split at hs
        · rename_i r hr
          cases hs
          have b1 : BR σ l (lo.map ρ) := by
            rcases evalO_sound lo l (fun y hy => hE y (by simp [opsL, hy])) hl with ⟨rfl, rfl⟩ | ⟨v, y, rfl, rfl, hv⟩
            · exact .none
            · exact .some hv
          have b2 : BR σ u (hi.map ρ) := by
            rcases evalO_sound hi u (fun y hy => hE y (by simp [opsL, hy])) hu with ⟨rfl, rfl⟩ | ⟨v, y, rfl, rfl, hv⟩
            · exact .none
            · exact .some hv
          obtain ⟨q, h1, h2⟩ := slice_sound (P := E.P) (w := w) (hE x (by simp [opsL]) _ ha) b1 b2 hr
          exact ⟨q, by simp [execOp, hop, h1], h2⟩
        · cases hs
      · cases hs
  case fieldAddr s x f =>
    split at hs
    · rename_i fields g ve c hf ha
      split at hs
      · rename_i fd hfd
        split at hs
        · rename_i n hz
          cases hs
          have h1 := hE x (by simp [opsL]) _ ha
          simp only [RV] at h1
          obtain ⟨L, hL, hc, h4⟩ := h1
          rw [nth_eq] at hfd
          have hfd' : fields[f]? = some fd := by simpa using hfd
          refine ⟨.pointer (some ((L.addr c).add fd.offset)), ?_, ?_⟩
          · simp [execOp, hop, Instr.fieldAt, run_underlying hf, hfd', h4, Instr.sureAddr, fieldPlace, run_szA hz]
          · simp only [RV]
            exact ⟨L, hL, by show L.c0 ≤ c + fd.offset; omega, by rw [Loc.addr_plus L c _ hc]; rfl⟩
        · cases hs
      · cases hs
    · cases hs
  case field s x f =>
    split at hs
    · rename_i fields cs hf ha
      split at hs
      · rename_i fd hfd
        split at hs
        · rename_i r hr
          cases hs
          have h1 := hE x (by simp [opsL]) _ ha
          simp only [RV] at h1
          obtain ⟨l, h4, h5⟩ := h1
          rw [nth_eq] at hfd
          have hfd' : fields[f]? = some fd := by simpa using hfd
          obtain ⟨u, h6, h7⟩ := partA_sound (P := E.P) (w := w) hr h5
          exact ⟨u, by simp [execOp, hop, Instr.field, run_underlying hf, hfd', h4, asAgg, h6], h7⟩
        · cases hs
      · cases hs
    · cases hs
  case indexAddr ty x ix =>
    split at hs
    · rename_i e g ve c n cap es k i ht ha hi
      have h1 := hE x (by simp [opsL]) _ ha
      have h2 := hE ix (by simp [opsL]) _ hi
      simp only [RV] at h1 h2
      obtain ⟨a, cap', h3, h4, h5, L, hL, h6, h6'⟩ := h1
      split at hs
      · rename_i hlt
        split at hs
        · rename_i s hz
          split at hs
          · rename_i heq
            cases hs
            have hes : s = es := Nat.eq_of_beq_eq_true heq
            subst hes
            have hin : i < n := by rw [blt_eq] at hlt; simpa using hlt
            have hin' : (0 : Int) ≤ (Int.ofNat i) ∧ (Int.ofNat i) < (n : Int) := ⟨Int.natCast_nonneg i, by show (i : Int) < n; omega⟩
            refine ⟨.pointer (some (a.add (i * s))), ?_, ?_⟩
            · have hi2 : (i : Int) < (n : Int) := by omega
              simp [execOp, hop, Instr.indexAt, run_underlying ht, h2, h3, asIntOf, run_szA hz, hi2, hin]
            · rcases h6' with ⟨h7, _⟩ | ⟨h7, h8⟩
              · omega
              · simp only [RV]
                refine ⟨L, hL, by show L.c0 ≤ c + i * s; omega, ?_⟩
                rw [h7, Loc.addr_plus L c _ h6]; rfl
          · cases hs
        · cases hs
      · cases hs
    · rename_i n e g ve c k i ht ha hi
      have h1 := hE x (by simp [opsL]) _ ha
      have h2 := hE ix (by simp [opsL]) _ hi
      simp only [RV] at h1 h2
      obtain ⟨L, hL, hc, h4⟩ := h1
      split at hs
      · rename_i hlt
        split at hs
        · rename_i s hz
          cases hs
          have hin : i < n := by rw [blt_eq] at hlt; simpa using hlt
          refine ⟨.pointer (some ((L.addr c).add (i * s))), ?_, ?_⟩
          · have hi2 : (i : Int) < (n : Int) := by omega
            simp [execOp, hop, Instr.indexAt, run_underlying ht, h2, h4, asIntOf, Instr.sureAddr, run_szA hz, hi2, hin]
          · simp only [RV]
            refine ⟨L, hL, by show L.c0 ≤ c + i * s; omega, ?_⟩
            rw [Loc.addr_plus L c _ hc]; rfl
        · cases hs
      · cases hs
    · cases hs
  case index ty x ix =>
    split at hs
    · rename_i n e cs k i ht ha hi
      have h1 := hE x (by simp [opsL]) _ ha
      have h2 := hE ix (by simp [opsL]) _ hi
      simp only [RV] at h1 h2
      obtain ⟨l, h4, h5⟩ := h1
      split at hs
      · rename_i hlt
        split at hs
        · rename_i s hz
          split at hs
          · rename_i r hr
            cases hs
            have hin : i < n := by rw [blt_eq] at hlt; simpa using hlt
            obtain ⟨u, h6, h7⟩ := partA_sound (P := E.P) (w := w) hr h5
            refine ⟨u, ?_, h7⟩
            have hi2 : (i : Int) < (n : Int) := by omega
            have h6' : (part e l.toArray (i * s)).run E.P w = .ok u w := h6
            simp [execOp, hop, Instr.index, run_underlying ht, h2, h4, asIntOf, run_szA hz, hi2, hin, h6']
          · cases hs
        · cases hs
      · cases hs
    · rename_i s k i ht ha hi
      have h1 := hE x (by simp [opsL]) _ ha
      have h2 := hE ix (by simp [opsL]) _ hi
      simp only [RV] at h1 h2
      obtain ⟨S, h4, rfl⟩ := h1
      split at hs
      · rename_i hlt
        cases hs
        have hin : i < S.size := by rw [blt_eq, slen_encS] at hlt; simpa using hlt
        have hg := sget_enc S i hin
        have hget : S[i]? = some S[i] := ByteArray.getElem?_lt' S i hin
        have hb : (S[i]).toNat = sget (encS S) i := by
          have h8 : i < S.data.toList.length := by have := hin; simpa using this
          have h9 : (bytesOf S)[i]? = some (S.data.toList[i]).toNat := by simp [bytesOf, List.getElem?_eq_getElem h8]
          rw [h9] at hg
          have h10 : S[i] = S.data.toList[i] := rfl
          rw [h10]
          exact Option.some.inj hg
        refine ⟨.int .u8 (S[i]).toNat, ?_, by simp only [RV]; rw [hb]; rfl⟩
        have hif : (if (0 : Int) ≤ Int.ofNat i then S[(Int.ofNat i).toNat]? else none) = some S[i] := by
          rw [if_pos (show (0 : Int) ≤ Int.ofNat i from Int.natCast_nonneg i)]
          exact hget
        simp only [execOp, hop, Instr.index, h2, h4, asIntOf, Sem.run_bind, Sem.run_pure, Result.andThen_ok, run_underlying ht, hif]
      · cases hs
    · cases hs
  case lookup ty x ix ok =>
    split at hs
    · rename_i kt e g k ht ha hi
      have h1 := hE x (by simp [opsL]) _ ha
      have h2 := hE ix (by simp [opsL]) _ hi
      simp only [RV] at h1
      obtain ⟨L, hL, h4⟩ := h1
      split at hs
      · rename_i es kd hg hkd
        split at hs
        · rename_i hpk
          obtain ⟨_, l, ck, h5, h6⟩ := H.obj _ _ _ _ hL hg
          have hck := plainKey_check (P := E.P) (w := w) hkd hpk l.isEmpty (ρ ix)
          split at hs
          · rename_i r hf
            cases hs
            rcases findA_sound h2 es l.toList 0 _ h6.1 hf with ⟨h7, _⟩ | ⟨v', u, j, h7, h8, h9⟩
            · cases h7
            · cases h7
              refine ⟨(if ok then .tuple #[u, .bool true] else u), ?_, ?_⟩
              · simp [execOp, hop, Instr.lookup, run_underlying ht, h4, getObj, Sem.run, h5, hck, Instr.findKey, run_underlying hkd, h9]
              · cases ok with
                | true => simp only [RV, if_true]; exact ⟨[u, .bool true], rfl, RVs.cons h8 (RVs.cons (by simp only [RV]) RVs.nil)⟩
                | false => simpa using h8
          · rename_i hf
            split at hs
            · rename_i z hz
              cases hs
              obtain ⟨Z, hZ, hzr⟩ := run_zeroA (P := E.P) (w := w) σ hz
              rcases findA_sound h2 es l.toList 0 _ h6.1 hf with ⟨_, h7⟩ | ⟨v', u, j, h7, _⟩
              · refine ⟨(if ok then .tuple #[Z, .bool false] else Z), ?_, ?_⟩
                · simp [execOp, hop, Instr.lookup, run_underlying ht, h4, getObj, Sem.run, h5, hck, Instr.findKey, run_underlying hkd, h7, hZ]
                · cases ok with
                  | true => simp only [RV, if_true]; exact ⟨[Z, .bool false], rfl, RVs.cons hzr (RVs.cons (by simp only [RV]) RVs.nil)⟩
                  | false => simpa using hzr
              · cases h7
            · cases hs
          · cases hs
        · cases hs
      · cases hs
    · cases hs
  case typeAssert x xt ty ok =>
    split at hs
    · cases hs
    · rename_i d ty' a hni hd ha
      have h1 := hE x (by simp [opsL]) _ ha
      simp only [RV] at h1
      obtain ⟨u, h4, h5⟩ := h1
      have hnd : ∀ ms, d ≠ .interface ms := fun ms e => hni ms e
      split at hs
      · rename_i heq
        cases hs
        have := Nat.eq_of_beq_eq_true heq
        subst this
        refine ⟨(if ok then .tuple #[u, .bool true] else u), ?_, ?_⟩
        · cases d <;> first
            | (exact absurd rfl (hnd _))
            | (simp [execOp, hop, Instr.typeAssert, run_underlying hd, h4]; done)
        · cases ok with
          | true => simp only [RV, if_true]; exact ⟨[u, .bool true], rfl, RVs.cons h5 (RVs.cons (by simp only [RV]) RVs.nil)⟩
          | false => simpa using h5
      · rename_i heq
        have hne : ty' ≠ ty := Nat.ne_of_beq_eq_false heq
        split at hs
        · rename_i z hz
          cases hs
          obtain ⟨Z, hZ, hzr⟩ := run_zeroA (P := E.P) (w := w) σ hz
          refine ⟨.tuple #[Z, .bool false], ?_, ?_⟩
          · cases d <;> first
              | (exact absurd rfl (hnd _))
              | (simp [execOp, hop, Instr.typeAssert, run_underlying hd, h4, hne, hZ]; done)
          · simp only [RV]; exact ⟨[Z, .bool false], rfl, RVs.cons hzr (RVs.cons (by simp only [RV]) RVs.nil)⟩
        · cases hs
    · rename_i d hni hd ha
      have h1 := hE x (by simp [opsL]) _ ha
      simp only [RV] at h1
      have hnd : ∀ ms, d ≠ .interface ms := fun ms e => hni ms e
      split at hs
      · rename_i z hz
        cases hs
        obtain ⟨Z, hZ, hzr⟩ := run_zeroA (P := E.P) (w := w) σ hz
        refine ⟨.tuple #[Z, .bool false], ?_, ?_⟩
        · cases d <;> first
            | (exact absurd rfl (hnd _))
            | (simp [execOp, hop, Instr.typeAssert, run_underlying hd, h1, hZ]; done)
        · simp only [RV]; exact ⟨[Z, .bool false], rfl, RVs.cons hzr (RVs.cons (by simp only [RV]) RVs.nil)⟩
      · cases hs
    · cases hs
  case extract x i =>
    split at hs
    · rename_i l ha
      split at hs
      · rename_i r hr
        cases hs
        have h1 := hE x (by simp [opsL]) _ ha
        simp only [RV] at h1
        obtain ⟨us, h4, h5⟩ := h1
        rw [nth_eq] at hr
        obtain ⟨u, h6, h7⟩ := h5.get _ _ hr
        exact ⟨u, by simp [execOp, hop, Instr.extract, h4, h6], h7⟩
      · cases hs
    · cases hs
  case call c =>
    have harg : ∀ as, evalsA E.base t c.args.toList = some as → RVs σ as (c.args.toList.map ρ) := fun as ha =>
      evals_sound _ _ (fun z hz => hE z (by simp [opsL, Array.mem_toList_iff.1 hz])) ha
    have hmap : c.args.map ρ = (c.args.toList.map ρ).toArray := map_list _ _
    split at hs
    · rename_i hc
      split at hs
      · rename_i ty ts x xs hty ha
        have hr := harg _ ha
        obtain ⟨u, us, h4, h5, h6⟩ := RVs.cons_inv hr
        obtain ⟨q, h7, h8⟩ := lenA_sound (P := E.P) (ty := o.type) (ts := ts) (us := us) H h5 hs
        refine ⟨q, ?_, h8⟩
        have hT : c.argTypes = (ty :: ts).toArray := by rw [← hty]
        simp only [execOp, hop, resolve, hc, Sem.run_bind, Sem.run_pure, Result.andThen_ok, invoke, builtin, hmap, h4, hT, h7]
      · cases hs
    · rename_i hc
      split at hs
      · rename_i k a l ha
        split at hs
        · rename_i r hm
          cases hs
          have hr := harg _ ha
          obtain ⟨u, us, h4, h5, h6⟩ := RVs.cons_inv hr
          simp only [RV] at h5
          subst h5
          have h7 := maxA_sound (P := E.P) (w := w) true k l a r us h6 hm
          simp only at h7
          refine ⟨.int k r, ?_, by simp only [RV]⟩
          simp only [execOp, hop, resolve, hc, Sem.run_bind, Sem.run_pure, Result.andThen_ok, invoke, builtin, hmap, h4, Builtin.min_, h7]
        · cases hs
      · cases hs
    · rename_i hc
      split at hs
      · rename_i k a l ha
        split at hs
        · rename_i r hm
          cases hs
          have hr := harg _ ha
          obtain ⟨u, us, h4, h5, h6⟩ := RVs.cons_inv hr
          simp only [RV] at h5
          subst h5
          have h7 := maxA_sound (P := E.P) (w := w) false k l a r us h6 hm
          simp only at h7
          refine ⟨.int k r, ?_, by simp only [RV]⟩
          simp only [execOp, hop, resolve, hc, Sem.run_bind, Sem.run_pure, Result.andThen_ok, invoke, builtin, hmap, h4, Builtin.max_, h7]
        · cases hs
      · cases hs
    · cases hs
end

end Go.Vm
end
section
namespace Go.Vm

theorem replicateA_get : ∀ (n : Nat) (l : List AV) (i : Nat), i < n * l.length → (replicateA n l)[i]? = l[i % l.length]?
  | 0, l, i, h => by omega
  | n + 1, l, i, h => by
    simp only [replicateA]
    by_cases hi : i < l.length
    · rw [List.getElem?_append_left hi, Nat.mod_eq_of_lt hi]
    · rw [List.getElem?_append_right (by omega), replicateA_get n l (i - l.length) (by rw [Nat.add_mul, Nat.one_mul] at h; omega)]
      congr 1
      rw [← Nat.mod_eq_sub_mod (by omega)]
theorem replicateA_length : ∀ (n : Nat) (l : List AV), (replicateA n l).length = n * l.length
  | 0, l => by simp [replicateA]
  | n + 1, l => by simp [replicateA, replicateA_length n l, Nat.add_mul]; omega
theorem replicate_sound {σ : Sig} {z : AV} {Z : Value} (hz : RV σ z Z) (n s : Nat) (hs : len z.cells = s) (zero : Array Value) (h0 : n * s ≠ 0 → zero = Z.cells) :
    RVs σ (replicateA n z.cells) ((Array.range (n * s)).map fun i => zero[i % zero.size]!).toList := by
  have hl : z.cells.length = s := by rw [← len_eq]; exact hs
  have hZ : Z.cells.size = s := by rw [hz.cells_size]; exact hs
  refine RVs.of_get (by simp [replicateA_length, hl]) ?_
  intro i x v hx hv
  have hi : i < n * s := by
    have := (List.getElem?_eq_some_iff.1 hx).1
    rw [replicateA_length, hl] at this; exact this
  rw [h0 (by omega)] at hv
  rw [replicateA_get n _ i (by rw [hl]; exact hi), hl] at hx
  have hsp : 0 < s := by
    rcases Nat.eq_zero_or_pos s with h | h
    · subst h; omega
    · exact h
  have hlt : i % s < Z.cells.size := by rw [hZ]; exact Nat.mod_lt _ hsp
  simp [hi, hZ, hlt] at hv
  obtain ⟨u, hu, hr⟩ := hz.cells.get _ _ hx
  rw [Array.getElem?_toList, Array.getElem?_eq_getElem hlt] at hu
  cases hu
  have hv' : Z.cells[i % s] = v := by simpa [hlt] using hv
  rw [← hv']; exact hr

section
variable {P : Program} {W0 : World} {base : Nat} {σ : Sig} {h : T Obj} {next : Pos} {w : World}

/-- The concrete value of a new row. -/
def mkC (b : Nat) : Option (Nat × Nat) → Value
  | none => .pointer (some ⟨b, 0, none⟩)
  | some (n, _) => .slice (some ⟨b, 0, none⟩) n n
theorem allocA_sound {E : Env} {t : T AV} {o : Oper} {ρ : Operand → Value} {cs : List AV} {e : TypeId} {k : Option (Nat × Nat)} (hE : ∀ x ∈ opsL o.op, EvOK σ E.base t ρ x) (ha : allocA E t o = some (cs, e, k)) :
    ∃ C : Array Value, (execOp ρ o).run E.P w = .ok (.value (mkC w.heap.size k)) (w.alloc (.cells C e)) ∧ RVs σ cs C.toList ∧ (∀ n s, k = some (n, s) → n * s ≤ C.size) := by
  unfold allocA at ha
  cases hop : o.op <;> simp only [hop] at ha hE <;> (try (cases ha; done))
  case alloc el =>
    split at ha
    · rename_i z hz
      cases ha
      obtain ⟨Z, hZ, hr⟩ := run_zeroA (P := E.P) (w := w) σ hz
      refine ⟨Z.cells, ?_, hr.cells, fun n s h => by cases h⟩
      simp [execOp, hop, Instr.alloc, hZ, newVar, newRow, mkC]
    · cases ha
  case box el x =>
    split at ha
    · rename_i a hx
      cases ha
      have h1 := hE x (by simp [opsL]) _ hx
      refine ⟨(ρ x).cells, ?_, h1.cells, fun n s h => by cases h⟩
      simp [execOp, hop, Instr.box, newVar, newRow, mkC]
    · cases ha
  case buildSlice ty n parts =>
    split at ha
    · rename_i el ps ht hp
      have hps := evalPs_sound parts.toList ps (fun x hx => hE x (by simpa [opsL] using hx)) hp
      split at ha
      · rename_i s hz
        split at ha
        · rename_i z hzz
          split at ha
          · rename_i hbz
            have hbs : len z.cells = s := Nat.eq_of_beq_eq_true hbz
            split at ha
            · cases ha
            · rename_i hbig
              split at ha
              · rename_i l hl
                cases ha
                obtain ⟨Z, hZ, hr⟩ := run_zeroA (P := E.P) (w := w) σ hzz
                have hsmall : ¬ (16777216 < n * s) := by
                  rw [blt_eq] at hbig
                  have : ¬ 1000000 < n * s := by simpa using hbig
                  omega
                have hrep := replicate_sound hr n s hbs Z.cells (fun _ => rfl)
                generalize hR : (Array.range (n * s)).map (fun i => Z.cells[i % Z.cells.size]!) = R at hrep
                have hR0 : n * s = 0 → R = #[] := fun h0 => by
                  have : R.size = 0 := by rw [← hR]; simp [h0]
                  exact Array.eq_empty_of_size_eq_zero this
                have hR1 : n * s = 0 → (Array.range (n * s)).map (fun i => (#[] : Array Value)[i % (#[] : Array Value).size]!) = R := fun h0 => by
                  rw [hR0 h0]
                  exact Array.eq_empty_of_size_eq_zero (by simp [h0])
                obtain ⟨C, h1, h2⟩ := fillA_sound (σ := σ) (pa := fun i => some (Nat.mul i s, s)) (pc := fun i => some (i * s, s)) (fun i x hx => hx) ps _ _ R cs hps hrep hl
                have hrun : (Instr.buildSlice ty n (parts.toList.map fun (i, x) => (i, ρ x)).toArray).run E.P w = .ok (mkC w.heap.size (some (n, s))) (w.alloc (.cells C e)) := by
                  unfold Instr.buildSlice
                  rw [Sem.run_bind, run_underlying ht, Result.andThen_ok]
                  simp only
                  rw [Sem.run_bind, run_szA hz, Result.andThen_ok]
                  have hb : ¬ (n * s > 2 ^ 24) := by
                    have : (2 : Nat) ^ 24 = 16777216 := by decide
                    omega
                  rw [if_neg hb]
                  by_cases h0 : n * s = 0
                  · rw [if_pos h0]
                    simp only [pure_bind, hR1 h0, h1]
                    simp [newRow, mkC]
                  · rw [if_neg h0]
                    rw [Sem.run_bind, hZ, Result.andThen_ok]
                    simp only [pure_bind, hR, h1]
                    simp [newRow, mkC]
                refine ⟨C, ?_, h2, ?_⟩
                · simp only [execOp, hop]
                  rw [map_list, Sem.run_bind, hrun]
                  rfl
                · intro n' s' hk
                  cases hk
                  have h3 := RVs.length h2
                  have : cs.length = n * s := by
                    have h5 : ∀ (pa : Nat → Option (Nat × Nat)) (ps : List (Nat × AV)) (cs cs' : List AV), fillA pa ps cs = some cs' → cs'.length = cs.length := by
                      intro pa ps
                      induction ps with
                      | nil => intro cs cs' h; simp only [fillA, Option.some.injEq] at h; subst h; rfl
                      | cons x ps ih =>
                        intro cs cs' h
                        obtain ⟨i, v⟩ := x
                        simp only [fillA] at h
                        split at h
                        · split at h
                          · split at h
                            · rename_i k hk
                              rw [ih _ _ h]
                              exact (putAt_eq _ _ _ _ hk).2.1
                            · cases h
                          · cases h
                        · cases h
                    rw [h5 _ _ _ _ hl, replicateA_length, ← len_eq, hbs]
                  simp at h3
                  omega
              · cases ha
          · cases ha
        · cases ha
      · cases ha
    · cases ha

/-- A new row, for a group that had no place. -/
theorem WR.newRow (H : WR W0 base σ h next w) {g : Pos} (hg : ∀ v, σ g v = none) (hgb : base < g.val) (next' : Pos) (hn : next.val ≤ next'.val) (hgn : g.val < next'.val)
    {cs : List AV} {e : TypeId} {k : Option (Nat × Nat)} {C : Array Value} (hr : RVs σ cs C.toList) (hk : ∀ n s, k = some (n, s) → n * s ≤ C.size) (h' : T Obj)
    (hh : ∀ q, q ≠ g → h'.get q = h.get q) (hhg : ∀ o, h'.get g = some o → o = .row cs e) :
    WR W0 base (put σ g 0 ⟨w.heap.size, 0, 0, C.size⟩) h' next' (w.alloc (.cells C e)) ∧ RV (put σ g 0 ⟨w.heap.size, 0, 0, C.size⟩) (mkAl g k) (mkC w.heap.size k) := by
  have hsub := put_sub σ g 0 ⟨w.heap.size, 0, 0, C.size⟩ (hg 0)
  refine ⟨H.alloc hg hgb next' hn hgn _ _ rfl h' hh ?_, ?_⟩
  · intro o ho
    rw [hhg o ho]
    exact ⟨rfl, rfl, rfl, C, rfl, rfl, RVs.mono hsub _ _ hr⟩
  · cases k with
    | none =>
      simp only [mkAl, mkC, RV]
      exact ⟨_, put_same _ _ _ _, Nat.le_refl _, rfl⟩
    | some ns =>
      obtain ⟨n, s⟩ := ns
      simp only [mkAl, mkC, RV]
      exact ⟨_, n, rfl, Nat.le_refl _, fun q hq => by cases hq; rfl, _, put_same _ _ _ _, Nat.le_refl _, .inr ⟨rfl, by have := hk n s rfl; simpa using this⟩⟩

/-- What is said of a new group whose cells may be added to. -/
theorem OR.newArrAt {cs : List AV} {e : TypeId} {C : Array Value} {b off m : Nat} (hr : RVs σ cs ((C.toList.drop off).take m)) (hm : off + m ≤ C.size) :
    OR σ (some (.cells C e (0, 0))) 0 ⟨b, off, 0, C.size⟩ (.arr (setRow 0 cs 0 .leaf) 0 [m] 0 e) := by
  have hlen : cs.length = m := by have := RVs.length hr; simp at this; omega
  refine ⟨m, C, (0, 0), rfl, rfl, rfl, by simp; omega, ?_, fun _ => rfl, fun _ _ _ _ => by simp⟩
  intro d x o h1 h2 h3 h4
  rw [setRow_at] at h3
  rw [if_pos (by omega)] at h3
  cases hx : cs[d - 0]? with
  | none => rw [hx] at h3; cases h3
  | some x' =>
    rw [hx] at h3; cases h3
    obtain ⟨u, hu, hru⟩ := hr.get _ _ hx
    refine ⟨u, ?_, hru⟩
    rw [List.getElem?_take] at hu
    split at hu
    · rw [List.getElem?_drop] at hu
      simpa using hu
    · cases hu
theorem OR.newArr {cs : List AV} {e : TypeId} {C : Array Value} {b m frz : Nat} {fz : Nat × Nat} (hr : RVs σ cs (C.toList.take m)) (hm : m ≤ C.size) (hz : frz = 0 → fz = (0, 0))
    (hf : ∀ d, frz ≤ d → d < C.size → fz.2 ≤ d) : OR σ (some (.cells C e fz)) 0 ⟨b, 0, 0, C.size⟩ (.arr (setRow 0 cs 0 .leaf) 0 [m] frz e) := by
  have hlen : cs.length = m := by have := RVs.length hr; simp at this; omega
  refine ⟨m, C, fz, rfl, rfl, rfl, by simp; omega, ?_, hz, ?_⟩
  · intro d x o h1 h2 h3 h4
    rw [setRow_at] at h3
    rw [if_pos (by omega)] at h3
    cases hx : cs[d - 0]? with
    | none => rw [hx] at h3; cases h3
    | some x' =>
      rw [hx] at h3; cases h3
      obtain ⟨u, hu, hru⟩ := hr.get _ _ hx
      refine ⟨u, ?_, hru⟩
      rw [List.getElem?_take] at hu
      split at hu
      · simpa using hu
      · cases hu
  · intro d h1 h2 h3
    have := hf d h1 (by simpa using h3)
    simpa using this

end

end Go.Vm
end
