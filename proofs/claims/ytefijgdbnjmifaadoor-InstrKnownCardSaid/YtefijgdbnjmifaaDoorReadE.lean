/- Plain laws: a number's digits are read back; a text that is read is its number's. -/
import Derived.Test.YtefijgdbnjmifaaDoorReadP
namespace Go.Proofs.YtefijgdbnjmifaaDoor
open Go.RowKit

theorem dd_small {n : Nat} (h : n < 10) : Lib.decDigits n = [UInt8.ofNat (48 + n)] := by rw [Lib.decDigits, dif_pos h]
theorem dd_big {n : Nat} (h : ¬ n < 10) : Lib.decDigits n = Lib.decDigits (n / 10) ++ [UInt8.ofNat (48 + n % 10)] := by rw [Lib.decDigits, dif_neg h]
theorem ofNat_toNat {n : Nat} (h : n < 10) : (UInt8.ofNat (48 + n)).toNat = 48 + n := by
  have : (48 + n) % 256 = 48 + n := Nat.mod_eq_of_lt (by omega)
  simpa using this
theorem dd_all (n : Nat) : allDig (Lib.decDigits n) = true := by
  induction n using Nat.strongRecOn with
  | ind n ih =>
    by_cases h : n < 10
    · rw [dd_small h]
      simp only [allDig, List.all_cons, List.all_nil, Bool.and_true, digB, ofNat_toNat h, Bool.and_eq_true, decide_eq_true_eq]
      omega
    · rw [dd_big h, allDig, List.all_append]
      have := ih (n / 10) (by omega)
      rw [allDig] at this
      rw [this]
      simp only [List.all_cons, List.all_nil, Bool.and_true, digB, ofNat_toNat (show n % 10 < 10 by omega), Bool.true_and, Bool.and_eq_true, decide_eq_true_eq]
      omega
theorem dd_val (n : Nat) : decVal 0 (Lib.decDigits n) = n := by
  induction n using Nat.strongRecOn with
  | ind n ih =>
    by_cases h : n < 10
    · rw [dd_small h, decVal_cons, decVal_nil, ofNat_toNat h]; omega
    · rw [dd_big h, decVal_snoc, ih (n / 10) (by omega), ofNat_toNat (by omega)]; omega
theorem dd_ne (n : Nat) : Lib.decDigits n ≠ [] := by
  by_cases h : n < 10
  · rw [dd_small h]; simp
  · rw [dd_big h]; simp
theorem dd_head (n : Nat) (h0 : 0 < n) : ∃ c r, Lib.decDigits n = c :: r ∧ 49 ≤ c.toNat ∧ c.toNat ≤ 57 := by
  induction n using Nat.strongRecOn with
  | ind n ih =>
    by_cases h : n < 10
    · exact ⟨_, _, dd_small h, by rw [ofNat_toNat h]; omega, by rw [ofNat_toNat h]; omega⟩
    · obtain ⟨c, r, h1, h2⟩ := ih (n / 10) (by omega) (by omega)
      exact ⟨c, r ++ [UInt8.ofNat (48 + n % 10)], by rw [dd_big h, h1]; rfl, h2⟩
theorem dd_zeroLed (n : Nat) : zeroLed (Lib.decDigits n) = false := by
  by_cases h : n = 0
  · subst h; rw [dd_small (by omega)]; rfl
  · obtain ⟨c, r, h1, h2, h3⟩ := dd_head n (by omega)
    rw [h1, zeroLed]
    have : ¬ (c :: r).head? = some 48 := by
      intro e
      simp at e
      subst e
      have : (48 : UInt8).toNat = 48 := rfl
      omega
    rw [decide_eq_false this]; rfl
theorem dd_body (n : Nat) : bodyOk (Lib.decDigits n) = true := by
  rw [bodyOk, dd_zeroLed, dd_all]
  have := dd_ne n
  cases h : Lib.decDigits n with
  | nil => exact absurd h this
  | cons => rfl
theorem dd_negB (n : Nat) : negB (Lib.decDigits n) = false := by
  have := dd_all n
  cases h : Lib.decDigits n with
  | nil => rfl
  | cons c r =>
    rw [h] at this
    simp only [allDig, List.all_cons, Bool.and_eq_true, digB, decide_eq_true_eq] at this
    rw [negB, decide_eq_false]
    intro e
    simp at e
    subst e
    have : (45 : UInt8).toNat = 45 := rfl
    omega
theorem itoa_read (a : Int) (ha : -9223372036854775808 ≤ a) (ha' : a ≤ 9223372036854775807) : readVal (Lib.itoa a) = a ∧ readErr (Lib.itoa a) = 0 := by
  by_cases h : a < 0
  · have e : Lib.itoa a = 45 :: Lib.decDigits a.natAbs := by rw [Lib.itoa, if_pos h]
    have hn : negB (45 :: Lib.decDigits a.natAbs) = true := rfl
    have hne : (Lib.decDigits a.natAbs == [48]) = false := by
      obtain ⟨c, r, h1, h2, h3⟩ := dd_head a.natAbs (by omega)
      cases hq : (Lib.decDigits a.natAbs == [48]) with
      | false => rfl
      | true =>
        have hq' : Lib.decDigits a.natAbs = [48] := by simpa using hq
        rw [hq'] at h1
        injection h1 with h1 _
        subst h1
        have : (48 : UInt8).toNat = 48 := rfl
        omega
    have hr : rightB (Lib.itoa a) = true := by rw [e, rightB, hn, if_pos rfl, List.tail_cons, hne, dd_body]; rfl
    have hv : readN (Lib.itoa a) = a.natAbs := by rw [e, readN, bodyOf, hn, if_pos rfl, List.tail_cons, dd_val]
    have ho : readOk (Lib.itoa a) = true := by rw [readOk, hv, e, hn]; simp; omega
    rw [readVal, readErr, hr, ho, hv, e, hn]
    refine ⟨?_, rfl⟩
    show -(a.natAbs : Int) = a
    omega
  · have e : Lib.itoa a = Lib.decDigits a.toNat := by rw [Lib.itoa, if_neg h]
    have hn := dd_negB a.toNat
    have hr : rightB (Lib.itoa a) = true := by rw [e, rightB, hn]; exact dd_body _
    have hv : readN (Lib.itoa a) = a.toNat := by rw [e, readN, bodyOf, hn]; exact dd_val _
    have ho : readOk (Lib.itoa a) = true := by rw [readOk, hv, e, hn]; simp; omega
    rw [readVal, readErr, hr, ho, hv, e, hn]
    refine ⟨?_, rfl⟩
    show (a.toNat : Int) = a
    omega

theorem val_pos {c : UInt8} {r : List UInt8} (h : 49 ≤ c.toNat) : 1 ≤ decVal 0 (c :: r) := by
  rw [decVal_cons]
  have := decVal_le r (10 * 0 + (c.toNat - 48))
  omega
theorem ofNat_back {c : UInt8} (h : 48 ≤ c.toNat) : UInt8.ofNat (48 + (c.toNat - 48)) = c := by
  have : 48 + (c.toNat - 48) = c.toNat := by omega
  rw [this]; simp
theorem dd_back : ∀ (n : Nat) (t : List UInt8), t.length = n → allDig t = true → zeroLed t = false → t ≠ [] → Lib.decDigits (decVal 0 t) = t := by
  intro n
  induction n with
  | zero => intro t hl _ _ hne; exact absurd (List.eq_nil_of_length_eq_zero hl) hne
  | succ n ih =>
    intro t hl ha hz hne
    obtain ⟨t', c, rfl⟩ : ∃ t' c, t = t' ++ [c] := ⟨t.dropLast, t.getLast hne, (List.dropLast_concat_getLast hne).symm⟩
    rw [allDig, List.all_append, Bool.and_eq_true] at ha
    obtain ⟨ha1, ha2⟩ := ha
    simp only [List.all_cons, List.all_nil, Bool.and_true, digB, Bool.and_eq_true, decide_eq_true_eq] at ha2
    rw [decVal_snoc]
    cases ht : t' with
    | nil =>
      rw [decVal_nil, dd_small (by omega), Nat.mul_zero, Nat.zero_add, ofNat_back ha2.1]; rfl
    | cons x r =>
      have hx : 49 ≤ x.toNat := by
        subst ht
        rw [List.all_cons, Bool.and_eq_true] at ha1
        have h1 := ha1.1
        simp only [digB, Bool.and_eq_true, decide_eq_true_eq] at h1
        have h2 : ¬ x = 48 := by
          rintro rfl
          simp [zeroLed] at hz
        have h3 : ¬ x.toNat = 48 := fun e => h2 (UInt8.toNat_inj.1 e)
        omega
      have hp := val_pos (r := r) hx
      have hz' : zeroLed (x :: r) = false := by
        rw [zeroLed, decide_eq_false]
        · rfl
        · intro e
          simp at e
          subst e
          have : (48 : UInt8).toNat = 48 := rfl
          omega
      rw [← ht] at hp hz' ⊢
      have hi := ih t' (by simpa using hl) ha1 hz' (by rw [ht]; simp)
      have e1 : (10 * decVal 0 t' + (c.toNat - 48)) / 10 = decVal 0 t' := by omega
      have e2 : (10 * decVal 0 t' + (c.toNat - 48)) % 10 = c.toNat - 48 := by omega
      rw [dd_big (by omega), e1, e2, hi, ofNat_back ha2.1]
theorem val_lt : ∀ (l : List UInt8) (a : Nat), allDig l = true → decVal a l < (a + 1) * 10 ^ l.length
  | [], a, _ => by rw [decVal_nil]; simp
  | c :: r, a, h => by
    simp only [allDig, List.all_cons, Bool.and_eq_true, digB, decide_eq_true_eq] at h
    have := val_lt r (10 * a + (c.toNat - 48)) h.2
    rw [decVal_cons, List.length_cons, Nat.pow_succ]
    have h2 : (10 * a + (c.toNat - 48) + 1) * 10 ^ r.length ≤ (10 * (a + 1)) * 10 ^ r.length := Nat.mul_le_mul_right _ (by omega)
    have h3 : (10 * (a + 1)) * 10 ^ r.length = (a + 1) * (10 ^ r.length * 10) := by rw [Nat.mul_comm 10 (a + 1), Nat.mul_assoc, Nat.mul_comm 10]
    omega
theorem right_parts {l : List UInt8} (h : rightB l = true) : bodyOk (bodyOf l) = true := by
  unfold rightB bodyOf at *
  cases hn : negB l with
  | false => rw [hn] at h; exact h
  | true => rw [hn] at h; simp only [if_true, Bool.and_eq_true] at h; exact h.2
theorem body_parts {t : List UInt8} (h : bodyOk t = true) : t ≠ [] ∧ zeroLed t = false ∧ allDig t = true := by
  simp only [bodyOk, Bool.and_eq_true, Bool.not_eq_true'] at h
  refine ⟨?_, h.1.2, h.2⟩
  rintro rfl
  simp at h
theorem read_itoa {l : List UInt8} (h : readErr l = 0) : Lib.itoa (readVal l) = l := by
  have hr : rightB l = true := by
    cases hq : rightB l with
    | true => rfl
    | false => rw [readErr, hq] at h; cases h
  have ho : readOk l = true := by
    cases hq : readOk l with
    | true => rfl
    | false => rw [readErr, hr, hq] at h; cases h
  obtain ⟨hne, hz, ha⟩ := body_parts (right_parts hr)
  have hb := dd_back _ _ rfl ha hz hne
  rw [readVal, hr, ho]
  simp only [Bool.and_self, if_true]
  cases hn : negB l with
  | false =>
    have e : bodyOf l = l := by rw [bodyOf, hn]; rfl
    rw [e] at hb
    have : readN l = decVal 0 l := by rw [readN, e]
    simp only [Bool.false_eq_true, if_false]
    rw [Lib.itoa, if_neg (by omega), Int.toNat_natCast, this, hb]
  | true =>
    have e : bodyOf l = l.tail := by rw [bodyOf, hn]; rfl
    have hl : l = 45 :: l.tail := by
      rw [negB, decide_eq_true_eq] at hn
      cases l with
      | nil => cases hn
      | cons c r => simp at hn; rw [hn]; rfl
    rw [e] at hb hne hz
    have hv : readN l = decVal 0 l.tail := by rw [readN, e]
    have hpos : 1 ≤ decVal 0 l.tail := by
      rcases Nat.eq_zero_or_pos (decVal 0 l.tail) with h0 | h0
      · rw [h0, dd_small (by omega)] at hb
        have : (l.tail == [48]) = true := by rw [← hb]; rfl
        rw [rightB, hn, if_pos rfl, this] at hr
        cases hr
      · exact h0
    simp only [if_true]
    rw [Lib.itoa, if_pos (by omega), hv]
    have e2 : (-((decVal 0 l.tail : Nat) : Int)).natAbs = decVal 0 l.tail := by omega
    rw [e2, hb, ← hl]
theorem read_long_len {l : List UInt8} (h : readErr l = 2) : 18 < l.length := by
  have hr : rightB l = true := by
    cases hq : rightB l with
    | true => rfl
    | false => rw [readErr, hq] at h; cases h
  have ho : readOk l = false := by
    cases hq : readOk l with
    | false => rfl
    | true => rw [readErr, hr, hq] at h; cases h
  obtain ⟨_, _, ha⟩ := body_parts (right_parts hr)
  have hv := val_lt _ 0 ha
  have hb : (bodyOf l).length ≤ l.length := by
    unfold bodyOf
    split
    · rw [List.length_tail]; omega
    · exact Nat.le_refl _
  have hge : 9223372036854775808 ≤ readN l := by
    unfold readOk at ho
    cases hn : negB l <;> rw [hn] at ho <;> simp at ho <;> omega
  rcases Nat.lt_or_ge 18 l.length with h1 | h1
  · exact h1
  · exfalso
    have h2 : 10 ^ (bodyOf l).length ≤ 10 ^ 18 := Nat.pow_le_pow_right (by decide) (by omega)
    unfold readN at hge
    have e : (10 : Nat) ^ 18 = 1000000000000000000 := by decide
    omega
theorem readErr_cases (l : List UInt8) : readErr l = 0 ∨ (readErr l = 2 ∧ readVal l = 0) ∨ (readErr l = 9 ∧ readVal l = 0) := by
  unfold readErr readVal
  cases rightB l <;> cases readOk l <;> simp
theorem readVal_bounds (l : List UInt8) : -9223372036854775808 ≤ readVal l ∧ readVal l ≤ 9223372036854775807 := by
  unfold readVal
  cases hr : rightB l with
  | false => simp
  | true =>
    cases ho : readOk l with
    | false => simp
    | true =>
      unfold readOk at ho
      cases hn : negB l <;> rw [hn] at ho <;> simp at ho ⊢ <;> omega
end Go.Proofs.YtefijgdbnjmifaaDoor
