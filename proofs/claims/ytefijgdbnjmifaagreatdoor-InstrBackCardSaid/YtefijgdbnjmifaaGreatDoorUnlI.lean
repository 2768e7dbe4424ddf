/- What is read of a text as code has just this text, in plain Lean. What is read of bytes as a number has just these bytes, in plain Lean. What is read of bytes as code has just these bytes, in plain Lean. Code's bytes are read as the code, and a beginning of them ends too early, in plain Lean. Code's text is read as the code, in plain Lean. -/
import Derived.Test.YtefijgdbnjmifaaGreatDoorUnlE
import Derived.Test.YtefijgdbnjmifaaGreatDoorLookP
import Derived.Test.YtefijgdbnjmifaaGreatDoorBytP
import Derived.Test.YtefijgdbnjmifaaGreatDoorRdQ
import Derived.Test.YtefijgdbnjmifaaGreatDoorReadE
namespace Go.Proofs.YtefijgdbnjmifaaGreatDoor
open Go.RowKit

theorem parseS_line {k : Nat} {l : List UInt8} (h : (parseS k l).2 = true) : lineS k (parseS k l).1 = l := by
  unfold parseS parseO at h ⊢
  split at h
  · cases h
  · rename_i hf
    rw [if_neg hf]
    simp only [Bool.and_eq_true, decide_eq_true_eq] at h
    exact h.2
theorem listTo_pre (c : List InsV) (x : InsV) : ∀ k, k ≤ c.length → listTo (c ++ [x]) k = listTo c k
  | 0, _ => rfl
  | k + 1, h => by
    have e : atV (c ++ [x]) k = atV c k := by unfold atV; simp [List.getD_eq_getElem?_getD, List.getElem?_append_left (show k < c.length by omega)]
    show listTo (c ++ [x]) k ++ _ = listTo c k ++ _
    rw [listTo_pre c x k (by omega), e]
theorem listS_snoc (c : List InsV) (x : InsV) : listS (c ++ [x]) = listS c ++ (lineS c.length x ++ [10]) := by
  have e : atV (c ++ [x]) c.length = x := by unfold atV; simp [List.getD_eq_getElem?_getD]
  unfold listS
  rw [List.length_append]
  show listTo (c ++ [x]) c.length ++ _ = _
  rw [listTo_pre c x _ (Nat.le_refl _), e]
theorem unlEnd_zero {c m : List InsV} {k : Nat} (h : unlEnd c = (m, k, 0)) : m = c ∧ ∀ j, j < c.length → rightI (atV c j).ins c.length = true := by
  unfold unlEnd at h
  split at h
  · simp at h
  · rename_i hn
    rw [List.find?_eq_none] at hn
    simp only [Prod.mk.injEq] at h
    exact ⟨h.1.symm, fun j hj => by simpa using hn j (by simpa using hj)⟩
theorem unlTo_list : ∀ (n : Nat) (c : List InsV) (l : List UInt8) (m : List InsV) (k : Nat), l.length ≤ n → c.length ≤ 8192 → unlTo n c l = (m, k, 0) →
    listS m = listS c ++ l ∧ m.length ≤ 8192 ∧ ∀ j, j < m.length → rightI (atV m j).ins m.length = true
  | 0, c, l, m, k, hl, hc, h => by
    obtain ⟨rfl, hr⟩ := unlEnd_zero h
    have : l = [] := List.eq_nil_of_length_eq_zero (by omega)
    subst this
    exact ⟨by simp, hc, hr⟩
  | n + 1, c, l, m, k, hl, hc, h => by
    unfold unlTo at h
    split at h
    · rename_i h0
      obtain ⟨rfl, hr⟩ := unlEnd_zero h
      have : l = [] := List.eq_nil_of_length_eq_zero h0
      subst this
      exact ⟨by simp, hc, hr⟩
    · split at h
      · simp at h
      · split at h
        · rename_i h0 h8 hok
          have hr := hok
          unfold lineOk at hr
          simp only [Bool.and_eq_true] at hr
          obtain ⟨hlt, he⟩ := cutL_rest hr.1.1
          have hp := parseS_line hr.1.2
          obtain ⟨h1, h2, h3⟩ := unlTo_list n _ _ m k (by omega) (by rw [List.length_append]; simp only [List.length_cons, List.length_nil]; omega) h
          refine ⟨?_, h2, h3⟩
          rw [h1, listS_snoc, hp]
          conv => rhs; rw [he]
          simp
        · simp at h
theorem unlS_list {l : List UInt8} {m : List InsV} {k : Nat} (h : unlS l = (m, k, 0)) : listS m = l ∧ m.length ≤ 8192 ∧ ∀ j, j < m.length → rightI (atV m j).ins m.length = true := by
  unfold unlS at h
  split at h
  · simp at h
  · obtain ⟨h1, h2, h3⟩ := unlTo_list _ _ _ _ _ (Nat.le_refl _) (by simp) h
    exact ⟨by rw [h1]; rfl, h2, h3⟩
end Go.Proofs.YtefijgdbnjmifaaGreatDoor
namespace Go.Proofs.YtefijgdbnjmifaaGreatDoor
open Go.RowKit

theorem byt_of (l : List UInt8) (i : Nat) : UInt8.ofNat (byt l i) = l.getD i 0 := by
  unfold byt; simp
theorem numGo_uint (l : List UInt8) : ∀ (f i n v p : Nat), numGo l f i n = (v, p, 0) →
    ∃ m, v = n + m * 2 ^ (7 * i) ∧ uintB m = (l.drop i).take (p - i) ∧ i < p ∧ p ≤ l.length ∧ (0 < i → 0 < m)
  | 0, i, n, v, p, h => by simp [numGo] at h
  | f + 1, i, n, v, p, h => by
    by_cases h0 : l.length ≤ i
    · rw [numGo_end h0] at h; simp at h
    · have hi : i < l.length := by omega
      by_cases hb : (byt l i = 0 ∧ 0 < i) ∨ (i = 9 ∧ byt l i ≠ 1)
      · rw [numGo_bad hi hb] at h; simp at h
      · have hd : l.drop i = l.getD i 0 :: l.drop (i + 1) := by
          rw [List.drop_eq_getElem_cons hi, List.getD_eq_getElem?_getD, List.getElem?_eq_getElem hi]; rfl
        have hlt := byt_lt l i
        by_cases h1 : byt l i < 128
        · rw [numGo_last hi hb h1] at h
          simp only [Prod.mk.injEq] at h
          refine ⟨byt l i, ?_, ?_, by omega, by omega, fun h3 => by omega⟩
          · rw [← h.1, Nat.mod_eq_of_lt h1]
          · rw [uintB_last h1, hd, show p - i = 1 by omega, byt_of]; rfl
        · rw [numGo_more hi hb h1] at h
          obtain ⟨m, e1, e2, e3, e4, e5⟩ := numGo_uint l f (i + 1) _ v p h
          have hm := e5 (by omega)
          refine ⟨byt l i % 128 + 128 * m, ?_, ?_, by omega, e4, fun _ => by omega⟩
          · rw [e1, show 7 * (i + 1) = 7 * i + 7 by omega, Nat.pow_add, Nat.add_mul, show (2 : Nat) ^ 7 = 128 by rfl]
            have : m * (2 ^ (7 * i) * 128) = 128 * m * 2 ^ (7 * i) := by
              rw [Nat.mul_comm 128 m, Nat.mul_assoc, Nat.mul_comm 128]
            omega
          · rw [uintB_more (by omega), show (byt l i % 128 + 128 * m) / 128 = m by omega, e2, hd, show p - i = (p - (i + 1)) + 1 by omega, List.take_succ_cons,
              show (byt l i % 128 + 128 * m) % 128 + 128 = byt l i by omega, byt_of]
/-- A number that is read has just the bytes of which it is read. -/
theorem numS_uint {l : List UInt8} {v p : Nat} (h : numS l = (v, p, 0)) : uintB v = l.take p ∧ 0 < p ∧ p ≤ l.length := by
  obtain ⟨m, e1, e2, e3, e4, _⟩ := numGo_uint l 10 0 0 v p h
  simp at e1 e2
  subst e1
  exact ⟨e2, e3, e4⟩
end Go.Proofs.YtefijgdbnjmifaaGreatDoor
namespace Go.Proofs.YtefijgdbnjmifaaGreatDoor
open Go.RowKit

theorem zig_zag (v : Nat) : zigN (zagI v) = v := by
  unfold zagI
  split
  · unfold zigN; rw [if_neg (by omega)]; omega
  · unfold zigN; rw [if_pos (by omega)]; omega
theorem num_eq (l : List UInt8) (h : (numS l).2.2 = 0) : numS l = ((numS l).1, (numS l).2.1, 0) := by
  conv => lhs; rw [show numS l = ((numS l).1, (numS l).2.1, (numS l).2.2) from rfl, h]
theorem fA_by {op : Nat} {l : List UInt8} (h : (fA op l).2.2 = 0) : aBy op ((fA op l).1 : Nat) = l.take (fA op l).2.1 := by
  by_cases ha : aK op = 0
  · have e : fA op l = (0, 0, 0) := by unfold fA; rw [decide_eq_false (by simp [ha])]; rfl
    rw [aBy_no ha, e]; simp
  · have e : fA op l = numS l := by unfold fA; rw [decide_eq_true ha]; rfl
    rw [e] at h ⊢
    rw [aBy_is ha, Int.toNat_natCast]
    exact (numS_uint (num_eq l h)).1
theorem fI_by {op : Nat} {l : List UInt8} (h : (fI op l).2.2 = 0) : iBy op (fI op l).1 = l.take (fI op l).2.1 := by
  cases hn : numK op with
  | false =>
    have e : fI op l = (0, 0, 0) := by unfold fI; rw [hn]; rfl
    rw [iBy_no hn, e]; simp
  | true =>
    have e : fI op l = (zagI (numS l).1, (numS l).2) := by unfold fI; rw [hn]; rfl
    rw [e] at h ⊢
    rw [iBy_is hn]
    show uintB (zigN (zagI (numS l).1)) = _
    rw [zig_zag]
    exact (numS_uint (num_eq l h)).1
theorem textS_good {l : List UInt8} (h : (textS l).2.2 = 0) : (numS l).2.2 = 0 ∧ (numS l).1 ≤ l.length - (numS l).2.1 ∧ textS l = ((l.drop (numS l).2.1).take (numS l).1, (numS l).2.1 + (numS l).1, 0) := by
  by_cases h1 : (numS l).2.2 = 0
  · by_cases h2 : l.length - (numS l).2.1 < (numS l).1
    · rw [text_short h1 h2] at h; exact absurd h (show ¬ (4 : Int) = 0 by decide)
    · exact ⟨h1, by omega, text_good h1 h2⟩
  · rw [text_bad h1] at h; exact absurd h h1
theorem strB_list (l : List UInt8) : (strB l).data.toList = l := by simp [strB]
theorem strB_size (l : List UInt8) : (strB l).size = l.length := by simp [strB, ByteArray.size]
theorem fT_by {op : Nat} {l : List UInt8} (h : (fT op l).2.2 = 0) : tBy op (strB (fT op l).1) = l.take (fT op l).2.1 := by
  by_cases ht : textK op = 0
  · have e : fT op l = ([], 0, 0) := by unfold fT; rw [decide_eq_false (by simp [ht])]; rfl
    rw [tBy_no ht, e]; simp
  · have e : fT op l = textS l := by unfold fT; rw [decide_eq_true ht]; rfl
    rw [e] at h ⊢
    obtain ⟨h1, h2, h3⟩ := textS_good h
    rw [tBy_is ht, h3, strB_list, strB_size, List.length_take, List.length_drop, Nat.min_eq_left h2, (numS_uint (num_eq l h1)).1, List.take_add]
theorem take_split (l : List UInt8) (p q : Nat) : l.take (p + q) = l.take p ++ (l.drop p).take q := List.take_add
/-- An instruction that is read has just the bytes of which it is read. -/
theorem one_by {l : List UInt8} {n : Int} (hn : n ≤ 8192) (h : (oneS l n).2.2 = 0) : insB (oneS l n).1 = l.take (oneS l n).2.1 ∧ rightI (oneS l n).1.ins n = true ∧ (oneS l n).1.op < 256 ∧ (oneS l n).1.text.size ≤ l.length ∧
    -9223372036854775808 ≤ (oneS l n).1.int ∧ (oneS l n).1.int ≤ 9223372036854775807 := by
  by_cases h0 : l.length = 0
  · rw [one_short h0] at h; exact absurd h (by decide)
  · have hl : 0 < l.length := by omega
    by_cases h1 : eA l = 0
    · by_cases h2 : eI l = 0
      · by_cases h3 : eT l = 0
        · by_cases h4 : rightI (xS l).ins n = true
          · rw [one_good hl h1 h2 h3 h4]
            have hg : ¬ 1099511627776 < (fA (byt l 0) (l.drop 1)).1 := fun c => xS_great hn c h4
            have ea : (xS l).a = (((fA (byt l 0) (l.drop 1)).1 : Nat) : Int) := by
              show ((min (fA (byt l 0) (l.drop 1)).1 4611686018427387904 : Nat) : Int) = _
              rw [Nat.min_eq_left (by omega)]
            have hd : l = UInt8.ofNat (byt l 0) :: l.drop 1 := by
              cases l with
              | nil => exact absurd rfl h0
              | cons b l => simp [byt]
            refine ⟨?_, h4, byt_lt l 0, ?_, ?_, ?_⟩
            · show UInt8.ofNat (byt l 0) :: (aBy (byt l 0) (xS l).a ++ iBy (byt l 0) (fI (byt l 0) (l.drop (pA l))).1 ++ tBy (byt l 0) (strB (fT (byt l 0) (l.drop (pI l))).1)) = l.take (pT l)
              rw [ea, fA_by h1, fI_by h2, fT_by h3]
              unfold pT
              rw [take_split]
              unfold pI
              rw [take_split]
              unfold pA
              rw [take_split, List.append_assoc, List.append_assoc]
              have e1 : l.take 1 = [UInt8.ofNat (byt l 0)] := by
                conv => lhs; rw [hd]
                rfl
              rw [e1]; simp
            · show (strB (fT (byt l 0) (l.drop (pI l))).1).size ≤ _
              rw [strB_size]
              have := fT_len (byt l 0) (l.drop (pI l))
              rw [List.length_drop] at this
              omega
            · show -9223372036854775808 ≤ (fI (byt l 0) (l.drop (pA l))).1
              unfold fI ifS
              split
              · have := num_lt (l.drop (pA l))
                show _ ≤ zagI _
                unfold zagI; split <;> omega
              · show _ ≤ (0 : Int); omega
            · show (fI (byt l 0) (l.drop (pA l))).1 ≤ _
              unfold fI ifS
              split
              · have := num_lt (l.drop (pA l))
                show zagI _ ≤ _
                unfold zagI; split <;> omega
              · show (0 : Int) ≤ _; omega
          · rw [one_wrong hl h1 h2 h3 h4] at h; exact absurd h (by decide)
        · rw [one_t hl h1 h2 h3] at h; exact absurd h h3
      · rw [one_i hl h1 h2] at h; exact absurd h h2
    · rw [one_a hl h1] at h; exact absurd h h1
theorem readGo_by {l : List UInt8} {n : Int} (hn : n ≤ 8192) : ∀ (k p : Nat) (c m : List InsV) (q : Nat), p ≤ l.length → readGo l n k p c = (m, q, 0) →
    ∃ c', m = c ++ c' ∧ c'.length = k ∧ c'.flatMap insB = l.drop p ∧ ∀ x, x ∈ c' → rightI x.ins n = true ∧ x.op < 256 ∧ x.text.size ≤ l.length ∧ -9223372036854775808 ≤ x.int ∧ x.int ≤ 9223372036854775807
  | 0, p, c, m, q, hp, h => by
    by_cases hl : p < l.length
    · rw [readGo_left hl] at h; simp at h
    · rw [readGo_end hl] at h
      simp only [Prod.mk.injEq] at h
      refine ⟨[], by simp [h.1], rfl, ?_, fun x hx => absurd hx (by simp)⟩
      rw [List.drop_eq_nil_of_le (by omega)]; rfl
  | k + 1, p, c, m, q, hp, h => by
    by_cases he : (oneS (l.drop p) n).2.2 = 0
    · rw [readGo_more he] at h
      have h1 := one_by hn he
      have hpos := @one_pos (l.drop p) n
      rw [List.length_drop] at hpos h1
      obtain ⟨c', e1, e2, e3, e4⟩ := readGo_by hn k _ _ m q (by omega) h
      refine ⟨(oneS (l.drop p) n).1 :: c', by rw [e1]; simp, by simp [e2], ?_, ?_⟩
      · rw [List.flatMap_cons, e3, h1.1, ← List.drop_drop, List.take_append_drop]
      · intro x hx
        rcases List.mem_cons.1 hx with rfl | hx
        · exact ⟨h1.2.1, h1.2.2.1, by have := h1.2.2.2.1; omega, h1.2.2.2.2⟩
        · exact e4 x hx
    · rw [readGo_bad he] at h
      simp only [Prod.mk.injEq] at h
      exact absurd h.2.2 he
/-- Code that is read has just the bytes of which it is read. -/
theorem readS_by {l : List UInt8} {m : List InsV} {q : Nat} (h : readS l = (m, q, 0)) :
    bytesS m = l ∧ m.length ≤ 8192 ∧ ∀ x, x ∈ m → rightI x.ins m.length = true ∧ x.op < 256 ∧ x.text.size ≤ l.length ∧ -9223372036854775808 ≤ x.int ∧ x.int ≤ 9223372036854775807 := by
  by_cases h1 : (numS l).2.2 = 0
  · by_cases h2 : 8192 < (numS l).1
    · rw [read_long h1 h2] at h; simp at h
    · rw [read_go h1 h2] at h
      obtain ⟨c', e1, e2, e3, e4⟩ := readGo_by (by omega) _ _ _ m q num_pos h
      rw [List.nil_append] at e1
      subst e1
      refine ⟨?_, by omega, fun x hx => by rw [e2]; exact e4 x hx⟩
      unfold bytesS
      rw [e2, e3, (numS_uint (num_eq l h1)).1, List.take_append_drop]
  · rw [read_bad h1] at h
    simp only [Prod.mk.injEq] at h
    exact absurd h.2.2 h1
theorem mayS_of {m : List InsV} (h1 : m.length ≤ 8192) (h2 : ∀ x, x ∈ m → rightI x.ins m.length = true) : mayS m = 0 :=
  may_good (by omega) fun k hk => by
    refine h2 _ ?_
    unfold atV
    rw [List.getD_eq_getElem?_getD, List.getElem?_eq_getElem hk]
    exact List.getElem_mem hk
end Go.Proofs.YtefijgdbnjmifaaGreatDoor
namespace Go.Proofs.YtefijgdbnjmifaaGreatDoor
open Go.RowKit

theorem byt_head {l r : List UInt8} {i : Nat} {b : UInt8} (h : l.drop i = b :: r) : i < l.length ∧ byt l i = b.toNat ∧ l.drop (i + 1) = r := by
  have hi : i < l.length := by
    have := congrArg List.length h
    simp only [List.length_drop, List.length_cons] at this
    omega
  have hd := List.drop_eq_getElem_cons hi
  rw [hd] at h
  injection h with h1 h2
  refine ⟨hi, ?_, h2⟩
  unfold byt
  rw [List.getD_eq_getElem?_getD, List.getElem?_eq_getElem hi, Option.getD_some, h1]
theorem u8_nat {n : Nat} (h : n < 256) : (UInt8.ofNat n).toNat = n := by
  rw [UInt8.toNat_ofNat']; omega
theorem pow_step (m i : Nat) : m / 128 * 2 ^ (7 * (i + 1)) ≤ m * 2 ^ (7 * i) := by
  rw [show 7 * (i + 1) = 7 * i + 7 by omega, Nat.pow_add, show (2 : Nat) ^ 7 = 128 by rfl, Nat.mul_comm (2 ^ (7 * i)) 128, ← Nat.mul_assoc]
  exact Nat.mul_le_mul_right _ (by omega)
theorem pow_sum (m i n : Nat) : n + m % 128 * 2 ^ (7 * i) + m / 128 * 2 ^ (7 * (i + 1)) = n + m * 2 ^ (7 * i) := by
  rw [show 7 * (i + 1) = 7 * i + 7 by omega, Nat.pow_add, show (2 : Nat) ^ 7 = 128 by rfl, Nat.mul_comm (2 ^ (7 * i)) 128, ← Nat.mul_assoc, Nat.add_assoc, ← Nat.add_mul]
  congr 2
  omega
theorem nine_one {m : Nat} (h : m * 2 ^ (7 * 9) < 18446744073709551616) : m < 2 := by
  have : (2 : Nat) ^ (7 * 9) = 9223372036854775808 := by decide
  rw [this] at h; omega
theorem ten_none {m : Nat} (h : m * 2 ^ (7 * 10) < 18446744073709551616) : m = 0 := by
  have : (2 : Nat) ^ (7 * 10) = 1180591620717411303424 := by decide
  rw [this] at h; omega
theorem numGo_back (l r : List UInt8) : ∀ (f i n m : Nat), f + i = 10 → l.drop i = uintB m ++ r → m * 2 ^ (7 * i) < 18446744073709551616 → (0 < i → 0 < m) → numGo l f i n = (n + m * 2 ^ (7 * i), i + (uintB m).length, 0)
  | 0, i, n, m, hf, hd, hm, hp => by
    have : i = 10 := by omega
    subst this
    have := ten_none hm
    have := hp (by omega)
    omega
  | f + 1, i, n, m, hf, hd, hm, hp => by
    by_cases h1 : m < 128
    · rw [uintB_last h1] at hd ⊢
      obtain ⟨hi, hb, _⟩ := byt_head (show l.drop i = UInt8.ofNat m :: r from hd)
      rw [u8_nat (by omega)] at hb
      have hbad : ¬ ((byt l i = 0 ∧ 0 < i) ∨ (i = 9 ∧ byt l i ≠ 1)) := by
        rintro (⟨a, b⟩ | ⟨a, b⟩)
        · have := hp b; omega
        · subst a
          have := nine_one hm
          have := hp (by omega)
          omega
      rw [numGo_last hi hbad (by omega), hb, Nat.mod_eq_of_lt h1]
      rfl
    · rw [uintB_more h1] at hd ⊢
      obtain ⟨hi, hb, hd'⟩ := byt_head (show l.drop i = UInt8.ofNat (m % 128 + 128) :: (uintB (m / 128) ++ r) from hd)
      rw [u8_nat (by omega)] at hb
      have hbad : ¬ ((byt l i = 0 ∧ 0 < i) ∨ (i = 9 ∧ byt l i ≠ 1)) := by
        rintro (⟨a, b⟩ | ⟨a, b⟩)
        · omega
        · subst a
          have := nine_one hm
          omega
      have hs := pow_step m i
      rw [numGo_more hi hbad (by omega), numGo_back l r f (i + 1) _ (m / 128) (by omega) hd' (by omega) (fun _ => by omega), hb,
        show (m % 128 + 128) % 128 = m % 128 by omega, pow_sum, List.length_cons]
      congr 2
      omega
theorem numGo_short (l : List UInt8) : ∀ (f i n m : Nat), f + i = 10 → i ≤ l.length → l.length - i < (uintB m).length → l.drop i = (uintB m).take (l.length - i) → m * 2 ^ (7 * i) < 18446744073709551616 → (0 < i → 0 < m) → numGo l f i n = (0, l.length, 4)
  | 0, i, n, m, hf, hil, hs, hd, hm, hp => by
    have : i = 10 := by omega
    subst this
    have := ten_none hm
    have := hp (by omega)
    omega
  | f + 1, i, n, m, hf, hil, hs, hd, hm, hp => by
    by_cases h0 : l.length ≤ i
    · exact numGo_end h0
    · by_cases h1 : m < 128
      · rw [uintB_last h1] at hs
        simp only [List.length_cons, List.length_nil] at hs
        omega
      · rw [uintB_more h1, List.length_cons] at hs
        rw [uintB_more h1, show l.length - i = (l.length - (i + 1)) + 1 by omega, List.take_succ_cons] at hd
        obtain ⟨hi, hb, hd'⟩ := byt_head hd
        rw [u8_nat (by omega)] at hb
        have hbad : ¬ ((byt l i = 0 ∧ 0 < i) ∨ (i = 9 ∧ byt l i ≠ 1)) := by
          rintro (⟨a, b⟩ | ⟨a, b⟩)
          · omega
          · subst a
            have := nine_one hm
            omega
        have hs' := pow_step m i
        rw [numGo_more hi hbad (by omega)]
        exact numGo_short l f (i + 1) _ (m / 128) (by omega) (by omega) (by omega) hd' (by omega) (fun _ => by omega)
/-- A reader reads a value's bytes as the value, and a beginning of them as too short. -/
structure Reads {α : Type} (f : List UInt8 → α × Nat × Int) (b : List UInt8) (v : α) : Prop where
  whole : ∀ r, f (b ++ r) = (v, b.length, 0)
  short : ∀ j, j < b.length → (f (b.take j)).2 = (j, 4)
theorem num_reads {m : Nat} (hm : m < 18446744073709551616) : Reads numS (uintB m) m := by
  refine ⟨fun r => ?_, fun j hj => ?_⟩
  · have := numGo_back (uintB m ++ r) r 10 0 0 m rfl rfl (by simpa using hm) (fun h => absurd h (by omega))
    show numGo _ 10 0 0 = _
    simpa using this
  · have hl : ((uintB m).take j).length = j := by rw [List.length_take]; omega
    have := numGo_short ((uintB m).take j) 10 0 0 m rfl (Nat.zero_le _) (by omega) (by rw [List.drop_zero, Nat.sub_zero, hl]) (by simpa using hm) (fun h => absurd h (by omega))
    unfold numS
    rw [this, hl]
theorem text_reads {t : List UInt8} (ht : t.length < 18446744073709551616) : Reads textS (uintB t.length ++ t) t := by
  have hn := num_reads ht
  refine ⟨fun r => ?_, fun j hj => ?_⟩
  · have e := hn.whole (t ++ r)
    rw [List.append_assoc]
    have h1 : (numS (uintB t.length ++ (t ++ r))).2.2 = 0 := by rw [e]
    rw [text_good h1 (by rw [e]; simp only [List.length_append]; omega), e]
    simp
  · rw [List.length_append] at hj
    by_cases h : j < (uintB t.length).length
    · have e := hn.short j h
      rw [List.take_append_of_le_length (by omega)]
      rw [text_bad (by rw [e]; exact (show ¬ (4 : Int) = 0 by decide)), e]
    · rw [List.take_append, List.take_of_length_le (by omega)]
      have e := hn.whole (t.take (j - (uintB t.length).length))
      have h1 : (numS (uintB t.length ++ t.take (j - (uintB t.length).length))).2.2 = 0 := by rw [e]
      rw [text_short h1 (by rw [e]; simp only [List.length_append, List.length_take]; omega)]
      simp only [List.length_append, List.length_take]
      congr 1
      omega
theorem none_reads {α : Type} {f : List UInt8 → α × Nat × Int} {z : α} (h : ∀ l, f l = (z, 0, 0)) : Reads f [] z := ⟨fun _ => h _, fun j hj => absurd hj (by simp)⟩
theorem fA_reads {op : Nat} {a : Int} (h0 : 0 ≤ a) (h1 : a ≤ 8192) (hz : aK op = 0 → a = 0) : Reads (fA op) (aBy op a) a.toNat := by
  by_cases h : aK op = 0
  · rw [aBy_no h, hz h]
    exact none_reads fun l => by unfold fA; rw [decide_eq_false (by simp [h])]; rfl
  · rw [aBy_is h, show fA op = numS from funext fun l => by unfold fA; rw [decide_eq_true h]; rfl]
    exact num_reads (by omega)
theorem zag_zig {x : Int} (h0 : -9223372036854775808 ≤ x) (h1 : x ≤ 9223372036854775807) : zagI (zigN x) = x := by
  unfold zagI zigN
  split <;> split <;> omega
theorem fI_reads {op : Nat} {x : Int} (h0 : -9223372036854775808 ≤ x) (h1 : x ≤ 9223372036854775807) (hz : numK op = false → x = 0) : Reads (fI op) (iBy op x) x := by
  cases h : numK op with
  | false =>
    rw [iBy_no h, hz h]
    exact none_reads fun l => by unfold fI; rw [h]; rfl
  | true =>
    have e : fI op = fun l => (zagI (numS l).1, (numS l).2) := funext fun l => by unfold fI; rw [h]; rfl
    rw [iBy_is h, e]
    have hn := num_reads (zig_lt h0 h1)
    refine ⟨fun r => ?_, fun j hj => hn.short j hj⟩
    show (zagI (numS _).1, (numS _).2) = _
    rw [hn.whole r, zag_zig h0 h1]
theorem fT_reads {op : Nat} {t : ByteArray} (ht : t.size < 18446744073709551616) (hz : textK op = 0 → t = ⟨#[]⟩) : Reads (fT op) (tBy op t) t.data.toList := by
  by_cases h : textK op = 0
  · rw [tBy_no h, hz h]
    exact none_reads fun l => by unfold fT; rw [decide_eq_false (by simp [h])]; rfl
  · rw [tBy_is h, show fT op = textS from funext fun l => by unfold fT; rw [decide_eq_true h]; rfl]
    have e : t.data.toList.length = t.size := Array.length_toList
    have := text_reads (t := t.data.toList) (by omega)
    rwa [e] at this
/-- An instruction that is right, its fields. -/
structure Fld (x : InsV) (n : Int) : Prop where
  op : x.op < 256
  hr : rightI x.ins n = true
  hn : n ≤ 8192
  i0 : -9223372036854775808 ≤ x.int
  i1 : x.int ≤ 9223372036854775807
  ts : x.text.size < 18446744073709551616
theorem right_i0 {x : InsV} {n : Int} (h : rightI x.ins n = true) (hn : numK x.op = false) : x.int = 0 := by
  have e : numK x.ins.op = false := hn
  simp only [rightI, e, Bool.false_or, Bool.and_eq_true, decide_eq_true_eq] at h
  exact h.1.1.1.2
theorem right_a0 {x : InsV} {n : Int} (h : rightI x.ins n = true) (ha : aK x.op = 0) : x.a = 0 := by
  have h1 := rightI_a h
  have e : topK x.ins.op n = 1 := by
    have ha' : aK x.ins.op = 0 := ha
    unfold topK; rw [ha']; rfl
  rw [e] at h1
  have : x.ins.a = x.a := rfl
  omega
theorem right_text {x : InsV} {n : Int} (h : rightI x.ins n = true) (ht : textK x.op = 0) : x.text = ⟨#[]⟩ := by
  simp only [rightI, Bool.and_eq_true] at h
  have h1 := h.2
  unfold textOk at h1
  have ht' : textK x.ins.op = 0 := ht
  rw [ht', if_neg (by omega), if_neg (by omega)] at h1
  have h2 : x.text.data.toList = [] := by simpa [InsV.ins] using h1
  have h3 : x.text.data = #[] := by simpa using h2
  cases hx : x.text with
  | mk d => rw [hx] at h3; exact congrArg ByteArray.mk h3
theorem strB_data (t : ByteArray) : strB t.data.toList = t := by simp [strB]
section
variable {x : InsV} {n : Int}
theorem Fld.a (h : Fld x n) : 0 ≤ x.a ∧ x.a ≤ 8192 := right_nn h.hr h.hn
theorem Fld.rA (h : Fld x n) : Reads (fA x.op) (aBy x.op x.a) x.a.toNat := fA_reads h.a.1 h.a.2 (right_a0 h.hr)
theorem Fld.rI (h : Fld x n) : Reads (fI x.op) (iBy x.op x.int) x.int := fI_reads h.i0 h.i1 (right_i0 h.hr)
theorem Fld.rT (h : Fld x n) : Reads (fT x.op) (tBy x.op x.text) x.text.data.toList := fT_reads h.ts (right_text h.hr)
theorem byt_cons (op : Nat) (h : op < 256) (l : List UInt8) : byt (UInt8.ofNat op :: l) 0 = op := by
  show (UInt8.ofNat op).toNat = op
  exact u8_nat h
theorem drop_len (a b : List UInt8) : (a ++ b).drop a.length = b := by simp
theorem drop_one_more (c : UInt8) (a b : List UInt8) : (c :: (a ++ b)).drop (1 + a.length) = b := by
  rw [Nat.add_comm, List.drop_succ_cons]; simp
/-- An instruction's bytes are read as it. -/
theorem one_back (h : Fld x n) (r : List UInt8) : oneS (insB x ++ r) n = (x, (insB x).length, 0) := by
  obtain ⟨l, hl⟩ : ∃ l, l = insB x ++ r := ⟨_, rfl⟩
  have e0 : l = UInt8.ofNat x.op :: (aBy x.op x.a ++ (iBy x.op x.int ++ (tBy x.op x.text ++ r))) := by rw [hl]; simp [insB]
  have eb : byt l 0 = x.op := by rw [e0]; exact byt_cons _ h.op _
  have d1 : l.drop 1 = aBy x.op x.a ++ (iBy x.op x.int ++ (tBy x.op x.text ++ r)) := by rw [e0]; rfl
  have rA := h.rA.whole (iBy x.op x.int ++ (tBy x.op x.text ++ r))
  have hpA : pA l = 1 + (aBy x.op x.a).length := by unfold pA; rw [eb, d1, rA]
  have d2 : l.drop (pA l) = iBy x.op x.int ++ (tBy x.op x.text ++ r) := by rw [hpA, e0]; exact drop_one_more _ _ _
  have rI := h.rI.whole (tBy x.op x.text ++ r)
  have hpI : pI l = pA l + (iBy x.op x.int).length := by unfold pI; rw [eb, d2, rI]
  have d3 : l.drop (pI l) = tBy x.op x.text ++ r := by rw [hpI, ← List.drop_drop, d2]; exact drop_len _ _
  have rT := h.rT.whole r
  have hpT : pT l = pI l + (tBy x.op x.text).length := by unfold pT; rw [eb, d3, rT]
  have hx : xS l = x := by
    unfold xS
    rw [eb, d1, d2, d3, rA, rI, rT]
    have ha := h.a
    show InsV.mk x.op ((min x.a.toNat 4611686018427387904 : Nat) : Int) x.int (strB x.text.data.toList) = x
    rw [strB_data, Nat.min_eq_left (by omega), show ((x.a.toNat : Nat) : Int) = x.a by omega]
  rw [← hl, one_good (by rw [e0]; simp) (by unfold eA; rw [eb, d1, rA]) (by unfold eI; rw [eb, d2, rI]) (by unfold eT; rw [eb, d3, rT]) (by rw [hx]; exact h.hr), hx, hpT, hpI, hpA]
  simp only [insB, List.length_cons, List.length_append]
  congr 2
  omega
theorem one_begin (h : Fld x n) {j : Nat} (hj : j < (insB x).length) : (oneS ((insB x).take j) n).2 = (j, 4) := by
  by_cases hj0 : j = 0
  · subst hj0; rw [one_short (by simp)]
  · obtain ⟨l, hl⟩ : ∃ l, l = (insB x).take j := ⟨_, rfl⟩
    have hll : insB x = UInt8.ofNat x.op :: (aBy x.op x.a ++ (iBy x.op x.int ++ tBy x.op x.text)) := by simp [insB]
    rw [hll, List.length_cons, List.length_append, List.length_append] at hj
    have e0 : l = UInt8.ofNat x.op :: (aBy x.op x.a ++ (iBy x.op x.int ++ tBy x.op x.text)).take (j - 1) := by
      rw [hl, hll, show j = (j - 1) + 1 by omega, List.take_succ_cons]; rfl
    have hpos : 0 < l.length := by rw [e0]; simp
    have eb : byt l 0 = x.op := by rw [e0]; exact byt_cons _ h.op _
    rw [← hl]
    by_cases h1 : j - 1 < (aBy x.op x.a).length
    · have d1 : l.drop 1 = (aBy x.op x.a).take (j - 1) := by rw [e0]; exact List.take_append_of_le_length (by omega)
      have rA := h.rA.short (j - 1) h1
      have ee : eA l = 4 := by unfold eA; rw [eb, d1, rA]
      rw [one_a hpos (by rw [ee]; decide), ee]
      show (pA l, (4 : Int)) = _
      unfold pA; rw [eb, d1, rA]
      congr 1
      show 1 + (j - 1) = j
      omega
    · have d1 : l.drop 1 = aBy x.op x.a ++ (iBy x.op x.int ++ tBy x.op x.text).take (j - 1 - (aBy x.op x.a).length) := by
        rw [e0]
        show List.take _ _ = _
        rw [List.take_append, List.take_of_length_le (by omega)]
      have rA := h.rA.whole ((iBy x.op x.int ++ tBy x.op x.text).take (j - 1 - (aBy x.op x.a).length))
      have hpA : pA l = 1 + (aBy x.op x.a).length := by unfold pA; rw [eb, d1, rA]
      have d2 : l.drop (pA l) = (iBy x.op x.int ++ tBy x.op x.text).take (j - 1 - (aBy x.op x.a).length) := by
        rw [hpA, ← List.drop_drop, d1]; exact drop_len _ _
      have eA0 : eA l = 0 := by unfold eA; rw [eb, d1, rA]
      by_cases h2 : j - 1 - (aBy x.op x.a).length < (iBy x.op x.int).length
      · rw [List.take_append_of_le_length (by omega)] at d2
        have rI := h.rI.short _ h2
        have ee : eI l = 4 := by unfold eI; rw [eb, d2, rI]
        rw [one_i hpos eA0 (by rw [ee]; decide), ee]
        show (pI l, (4 : Int)) = _
        unfold pI; rw [eb, d2, rI, hpA]
        congr 1
        show 1 + (aBy x.op x.a).length + (j - 1 - (aBy x.op x.a).length) = j
        omega
      · rw [List.take_append, List.take_of_length_le (by omega)] at d2
        have rI := h.rI.whole ((tBy x.op x.text).take (j - 1 - (aBy x.op x.a).length - (iBy x.op x.int).length))
        have hpI : pI l = pA l + (iBy x.op x.int).length := by unfold pI; rw [eb, d2, rI]
        have d3 : l.drop (pI l) = (tBy x.op x.text).take (j - 1 - (aBy x.op x.a).length - (iBy x.op x.int).length) := by
          rw [hpI, ← List.drop_drop, d2]; exact drop_len _ _
        have eI0 : eI l = 0 := by unfold eI; rw [eb, d2, rI]
        have rT := h.rT.short _ (show j - 1 - (aBy x.op x.a).length - (iBy x.op x.int).length < (tBy x.op x.text).length by omega)
        have ee : eT l = 4 := by unfold eT; rw [eb, d3, rT]
        rw [one_t hpos eA0 eI0 (by rw [ee]; decide), ee]
        show (pT l, (4 : Int)) = _
        unfold pT; rw [eb, d3, rT, hpI, hpA]
        congr 1
        show 1 + (aBy x.op x.a).length + (iBy x.op x.int).length + (j - 1 - (aBy x.op x.a).length - (iBy x.op x.int).length) = j
        omega
end
theorem readGo_back (l : List UInt8) (n : Int) : ∀ (d : List InsV) (p : Nat) (c : List InsV), p ≤ l.length → l.drop p = d.flatMap insB → (∀ x, x ∈ d → Fld x n) → readGo l n d.length p c = (c ++ d, l.length, 0)
  | [], p, c, hp, hd, _ => by
    have : l.length ≤ p := by
      have := congrArg List.length hd
      simp only [List.length_drop, List.flatMap_nil, List.length_nil] at this
      omega
    show readGo l n 0 p c = _
    rw [readGo_end (by omega), List.append_nil, show p = l.length by omega]
  | x :: d, p, c, hp, hd, hf => by
    rw [List.flatMap_cons] at hd
    have e := one_back (hf x (by simp)) (d.flatMap insB)
    have hlen := congrArg List.length hd
    simp only [List.length_drop, List.length_append] at hlen
    rw [← hd] at e
    show readGo l n (d.length + 1) p c = _
    rw [readGo_more (by rw [e]), e, readGo_back l n d _ _ (by show p + (insB x).length ≤ _; omega) (by rw [← List.drop_drop, hd]; exact drop_len _ _) (fun y hy => hf y (by simp [hy]))]
    simp
theorem readGo_short (l : List UInt8) (n : Int) : ∀ (d : List InsV) (p : Nat) (c : List InsV) (j : Nat), p + j = l.length → j < (d.flatMap insB).length → l.drop p = (d.flatMap insB).take j → (∀ x, x ∈ d → Fld x n) → (readGo l n d.length p c).2 = (l.length, 4)
  | [], p, c, j, hp, hj, _, _ => absurd hj (by simp)
  | x :: d, p, c, j, hp, hj, hd, hf => by
    rw [List.flatMap_cons] at hd hj
    rw [List.length_append] at hj
    show (readGo l n (d.length + 1) p c).2 = _
    by_cases h : j < (insB x).length
    · rw [List.take_append_of_le_length (by omega)] at hd
      have e := one_begin (hf x (by simp)) h
      rw [← hd] at e
      rw [readGo_bad (by rw [e]; exact (show ¬ (4 : Int) = 0 by decide)), e]
      show (p + j, (4 : Int)) = _
      rw [hp]
    · rw [List.take_append, List.take_of_length_le (by omega)] at hd
      have e := one_back (hf x (by simp)) ((d.flatMap insB).take (j - (insB x).length))
      rw [← hd] at e
      rw [readGo_more (by rw [e]), e]
      exact readGo_short l n d _ _ (j - (insB x).length) (by show p + (insB x).length + _ = _; omega) (by omega) (by rw [← List.drop_drop, hd]; exact drop_len _ _) (fun y hy => hf y (by simp [hy]))
/-- Code's bytes are read as the code. -/
theorem readS_back {c : List InsV} (hc : c.length ≤ 8192) (hf : ∀ x, x ∈ c → Fld x c.length) : readS (bytesS c) = (c, (bytesS c).length, 0) := by
  have hn := (num_reads (m := c.length) (by omega)).whole (c.flatMap insB)
  have e : bytesS c = uintB c.length ++ c.flatMap insB := rfl
  rw [← e] at hn
  rw [read_go (by rw [hn]) (by rw [hn]; show ¬ 8192 < c.length; omega), hn]
  show readGo (bytesS c) (c.length : Nat) c.length (uintB c.length).length [] = _
  rw [readGo_back (bytesS c) _ c _ [] (by rw [e, List.length_append]; omega) (by rw [e]; exact drop_len _ _) hf]
  rfl
/-- A beginning of code's bytes ends too early. -/
theorem readS_short {c : List InsV} (hc : c.length ≤ 8192) (hf : ∀ x, x ∈ c → Fld x c.length) {i : Nat} (hi : i < (bytesS c).length) : (readS ((bytesS c).take i)).2 = (i, 4) := by
  have e : bytesS c = uintB c.length ++ c.flatMap insB := rfl
  have hl : ((bytesS c).take i).length = i := by rw [List.length_take]; omega
  by_cases h : i < (uintB c.length).length
  · have hn := (num_reads (m := c.length) (by omega)).short i h
    have e2 : (bytesS c).take i = (uintB c.length).take i := by rw [e]; exact List.take_append_of_le_length (by omega)
    rw [e2, read_bad (by rw [hn]; exact (show ¬ (4 : Int) = 0 by decide)), hn]
  · have hlen := congrArg List.length e
    rw [List.length_append] at hlen
    have e2 : (bytesS c).take i = uintB c.length ++ (c.flatMap insB).take (i - (uintB c.length).length) := by
      rw [e, List.take_append, List.take_of_length_le (by omega)]
    have hn := (num_reads (m := c.length) (by omega)).whole ((c.flatMap insB).take (i - (uintB c.length).length))
    rw [← e2] at hn
    rw [read_go (by rw [hn]) (by rw [hn]; show ¬ 8192 < c.length; omega), hn]
    show (readGo ((bytesS c).take i) (c.length : Nat) c.length (uintB c.length).length []).2 = _
    rw [readGo_short _ _ c _ [] (i - (uintB c.length).length) (by omega) (by omega) (by rw [e2]; exact drop_len _ _) hf, hl]
end Go.Proofs.YtefijgdbnjmifaaGreatDoor
namespace Go.Proofs.YtefijgdbnjmifaaGreatDoor
open Go.RowKit

theorem trim_head (p r : List UInt8) : Lib.trimPrefix (p ++ r) p = r := by
  have h : Lib.hasPrefix (p ++ r) p = true := by
    show p.isPrefixOf (p ++ r) = true
    rw [List.isPrefixOf_iff_prefix]
    exact List.prefix_append _ _
  rw [Lib.trimPrefix, if_pos h]
  simp
/-- The digits of a number. -/
theorem dd_chars (n : Nat) : ∀ c, c ∈ Lib.decDigits n → 48 ≤ c.toNat ∧ c.toNat ≤ 57 := fun c hc => by
  have := List.all_eq_true.1 (dd_all n) c hc
  simpa [digB] using this
theorem itoa_chars (a : Int) : ∀ c, c ∈ Lib.itoa a → 45 ≤ c.toNat ∧ c.toNat ≤ 57 := fun c hc => by
  unfold Lib.itoa at hc
  split at hc
  · rcases List.mem_cons.1 hc with rfl | h
    · exact ⟨by decide, by decide⟩
    · have := dd_chars _ c h; omega
  · have := dd_chars _ c hc; omega
theorem itoa_no (a : Int) {c : UInt8} (hc : c.toNat < 45) : c ∉ Lib.itoa a := fun h => by
  have := itoa_chars a c h; omega
theorem words_low : (List.range 64).all (fun op => (wordsL.getD op []).all fun c => decide (97 ≤ c.toNat)) = true := by decide +kernel
theorem isK_lt {op : Nat} (h : isK op = true) : op < 64 := by
  simp only [isK, Bool.or_eq_true, Bool.and_eq_true, decide_eq_true_eq] at h; omega
theorem word_no {op : Nat} (h : op < 64) {c : UInt8} (hc : c.toNat < 97) : c ∉ (wordK op).data.toList := fun hm => by
  have h1 := List.all_eq_true.1 words_low op (List.mem_range.2 h)
  have h2 := List.all_eq_true.1 h1 c (by simpa [wordK] using hm)
  simp only [decide_eq_true_eq] at h2
  omega
theorem words_apart : (List.range 64).all (fun op => !isK op || (!(wordsL.getD op []).isEmpty && (List.range op).all fun j => !(wordsL.getD j [] == wordsL.getD op []))) = true := by decide +kernel
theorem word_back {op : Nat} (h : isK op = true) : opS (sp (wordK op).data.toList) = op := by
  have hl := isK_lt h
  have h1 := List.all_eq_true.1 words_apart op (List.mem_range.2 hl)
  rw [h, Bool.not_true, Bool.false_or, Bool.and_eq_true] at h1
  have e : sp (wordK op).data.toList = wordK op := by simp [sp, wordK]
  rw [e]
  refine opS_at ?_ hl rfl fun j hj c => ?_
  · intro h0
    have : (wordsL.getD op []).length = 0 := by simpa [wordK, ByteArray.size] using h0
    have h2 := h1.1
    rw [List.eq_nil_of_length_eq_zero this] at h2
    exact absurd h2 (by decide)
  · have h2 := List.all_eq_true.1 h1.2 j (List.mem_range.2 hj)
    have : wordsL.getD j [] = wordsL.getD op [] := by
      have := congrArg (fun b : ByteArray => b.data.toList) c
      simpa [wordK] using this
    rw [this] at h2
    simp at h2
theorem hexN_hexC : ∀ k : Fin 16, hexN (hexC k.val) = k.val := by decide +kernel
theorem hexN_C {k : Nat} (h : k < 16) : hexN (hexC k) = k := hexN_hexC ⟨k, h⟩
theorem unq_back : ∀ t : List UInt8, unqL (t.flatMap qByte ++ [34]) = t
  | [] => unqL_end (by simp)
  | c :: t => by
    have ih := unq_back t
    rw [List.flatMap_cons, List.append_assoc]
    have hlt := c.toNat_lt
    cases h : odd c with
    | false =>
      rw [qByte_even h]
      have he : escL ([c] ++ (t.flatMap qByte ++ [34])) = false := by
        unfold escL
        have : ¬ ([c] ++ (t.flatMap qByte ++ [34])).getD 0 0 = 92 := by
          show ¬ c = 92
          rintro rfl
          exact absurd h (by decide)
        rw [decide_eq_false this]; rfl
      rw [unqL_one (by simp) he]
      show c :: unqL (t.flatMap qByte ++ [34]) = _
      rw [ih]
    | true =>
      rw [qByte_odd h]
      have g2 : ([92, 120, hexC (c.toNat / 16), hexC (c.toNat % 16)] ++ (t.flatMap qByte ++ [34])).getD 2 0 = hexC (c.toNat / 16) := rfl
      have g3 : ([92, 120, hexC (c.toNat / 16), hexC (c.toNat % 16)] ++ (t.flatMap qByte ++ [34])).getD 3 0 = hexC (c.toNat % 16) := rfl
      have e2 := hexN_C (show c.toNat / 16 < 16 by omega)
      have e3 := hexN_C (show c.toNat % 16 < 16 by omega)
      have he : escL ([92, 120, hexC (c.toNat / 16), hexC (c.toNat % 16)] ++ (t.flatMap qByte ++ [34])) = true := by
        unfold escL
        rw [g2, g3, e2, e3, decide_eq_true (p := c.toNat / 16 < 16) (by omega), decide_eq_true (p := c.toNat % 16 < 16) (by omega)]
        simp
      have hv : escV ([92, 120, hexC (c.toNat / 16), hexC (c.toNat % 16)] ++ (t.flatMap qByte ++ [34])) = c := by
        unfold escV
        rw [g2, g3, e2, e3, show 16 * (c.toNat / 16) + c.toNat % 16 = c.toNat by omega]
        simp
      rw [unqL_esc (by simp) he, hv]
      show c :: unqL (t.flatMap qByte ++ [34]) = _
      rw [ih]
theorem unqS_back (t : List UInt8) : unqS (quotedS t) = t := unq_back t
theorem hexC_no : ∀ k : Fin 16, hexC k.val ≠ 10 := by decide +kernel
theorem qByte_no (c : UInt8) : (10 : UInt8) ∉ qByte c := fun hm => by
  have hlt := c.toNat_lt
  cases h : odd c with
  | false =>
    rw [qByte_even h] at hm
    have : c = 10 := (List.mem_singleton.1 hm).symm
    subst this
    exact absurd h (by decide)
  | true =>
    rw [qByte_odd h] at hm
    simp only [List.mem_cons, List.not_mem_nil, or_false] at hm
    rcases hm with h1 | h1 | h1 | h1
    · exact absurd h1 (by decide)
    · exact absurd h1 (by decide)
    · exact hexC_no ⟨c.toNat / 16, by omega⟩ h1.symm
    · exact hexC_no ⟨c.toNat % 16, by omega⟩ h1.symm
theorem quoted_no (t : List UInt8) : (10 : UInt8) ∉ quotedS t := fun hm => by
  unfold quotedS at hm
  rcases List.mem_cons.1 hm with h | h
  · exact absurd h (by decide)
  · rcases List.mem_append.1 h with h | h
    · obtain ⟨c, _, h2⟩ := List.mem_flatMap.1 h
      exact qByte_no c h2
    · exact absurd (List.mem_singleton.1 h) (by decide)
theorem name_no {l : List UInt8} (h : nameB l = true) {c : UInt8} (hc : c.toNat < 48) : c ∉ l := fun hm => by
  rw [name_def] at h
  simp only [Bool.and_eq_true] at h
  have h1 := List.all_eq_true.1 h.2 c hm
  simp only [okC, Bool.or_eq_true, Bool.and_eq_true, decide_eq_true_eq] at h1
  omega
theorem right_isK {x : InsV} {n : Int} (h : rightI x.ins n = true) : isK x.op = true := by
  simp only [rightI, Bool.and_eq_true] at h
  exact h.1.1.1.1
theorem right_name {x : InsV} {n : Int} (h : rightI x.ins n = true) (ht : textK x.op = 2) : nameB x.text.data.toList = true := by
  simp only [rightI, Bool.and_eq_true] at h
  have h1 := h.2
  unfold textOk at h1
  have ht' : textK x.ins.op = 2 := ht
  rw [ht', if_neg (by omega), if_pos rfl] at h1
  exact h1
/-- An instruction's fields in its line. -/
def fieldsTx (x : InsV) : List UInt8 := iTx x.op x.int ++ tTx x.op x.text
theorem num_op {op : Nat} (h : numK op = true) : aK op = 0 := by
  have : op = 23 := by simpa [numK] using h
  subst this; rfl
section
variable {x : InsV} {n : Int}
theorem Fld.fields (h : Fld x n) : intL x.op (fieldsTx x).tail = x.int ∧ textL x.op (fieldsTx x).tail = x.text := by
  cases hn : numK x.op with
  | true =>
    have ht := num_text hn
    have e : (fieldsTx x).tail = Lib.itoa x.int := by unfold fieldsTx; rw [iTx_is hn, tTx_no ht]; simp
    rw [e, intL_is hn, textL_no ht, (itoa_read _ h.i0 h.i1).1, right_text h.hr ht]
    exact ⟨rfl, rfl⟩
  | false =>
    rw [intL_no hn, right_i0 h.hr hn]
    refine ⟨rfl, ?_⟩
    rcases textK_cases x.op with ht | ht | ht
    · rw [textL_no ht, right_text h.hr ht]
    · have e : (fieldsTx x).tail = quotedS x.text.data.toList := by unfold fieldsTx; rw [iTx_no hn, tTx_any ht]; rfl
      rw [e, textL_any ht, unqS_back]; simp [sp]
    · have e : (fieldsTx x).tail = x.text.data.toList := by unfold fieldsTx; rw [iTx_no hn, tTx_name ht]; rfl
      rw [e, textL_name ht]; simp [sp]
/-- The fields begin with a space, or there are none. -/
theorem fields_head (x : InsV) : fieldsTx x = [] ∨ fieldsTx x = 32 :: (fieldsTx x).tail := by
  unfold fieldsTx
  cases hn : numK x.op with
  | true => right; rw [iTx_is hn]; rfl
  | false =>
    rw [iTx_no hn]
    rcases textK_cases x.op with ht | ht | ht
    · left; rw [tTx_no ht]; rfl
    · right; rw [tTx_any ht]; rfl
    · right; rw [tTx_name ht]; rfl
theorem cut_head {a f : List UInt8} (ha : (32 : UInt8) ∉ a) (hf : f = [] ∨ f = 32 :: f.tail) : (cutL (a ++ f) 32).1 = a ∧ (cutL (a ++ f) 32).2.1 = f.tail := by
  rw [cutL_eq]
  rcases hf with h | h
  · rw [h, List.append_nil, cutR_no a ha]; exact ⟨rfl, rfl⟩
  · rw [h, cutR_at _ a ha]; exact ⟨rfl, rfl⟩
/-- A line is read as its instruction. -/
theorem parse_back (h : Fld x n) (k : Nat) : parseS k (lineS k x) = (x, true) := by
  have hk := right_isK h.hr
  have hl := isK_lt hk
  obtain ⟨F, hF⟩ : ∃ F, F = aTx x.op x.a ++ fieldsTx x := ⟨_, rfl⟩
  have e : lineS k x = headL k ++ ((wordK x.op).data.toList ++ F) := by
    rw [hF]; unfold lineS headTx headL fieldsTx; simp
  have hFh : F = [] ∨ F = 32 :: F.tail := by
    by_cases ha : aK x.op = 0
    · rw [aTx_no ha, List.nil_append] at hF
      rw [hF]; exact fields_head x
    · right; rw [hF, aTx_is ha]; rfl
  have hc := cut_head (word_no hl (c := 32) (by decide)) hFh
  have hw : wordL k (lineS k x) = (wordK x.op).data.toList := by unfold wordL; rw [e, trim_head]; exact hc.1
  have hr : restL k (lineS k x) = F.tail := by unfold restL; rw [e, trim_head]; exact hc.2
  have ho : opS (sp (wordL k (lineS k x))) = x.op := by rw [hw]; exact word_back hk
  have hb : failL x.op F.tail = false ∧ aL x.op F.tail = x.a ∧ behindL x.op F.tail = (fieldsTx x).tail := by
    by_cases ha : aK x.op = 0
    · rw [aTx_no ha, List.nil_append] at hF
      exact ⟨failL_no ha, by rw [aL_no ha, right_a0 h.hr ha], by rw [behindL_no ha, hF]⟩
    · have ht : F.tail = Lib.itoa x.a ++ fieldsTx x := by rw [hF, aTx_is ha]; rfl
      have hA := h.a
      have hi := itoa_read x.a (by omega) (by omega)
      have hc2 := cut_head (itoa_no x.a (c := 32) (by decide)) (fields_head x)
      rw [ht]
      refine ⟨failL_ok (by rw [hc2.1]; exact hi.2) (by rw [hc2.1, hi.1]; omega), by rw [aL_is ha, hc2.1]; exact hi.1, by rw [behindL_is ha, hc2.2]⟩
  have hf : fullL x.op F.tail = x := by
    unfold fullL
    rw [hb.2.1, hb.2.2, h.fields.1, h.fields.2]
  unfold parseS
  rw [ho, hr, parseO_ok hb.1, hf, hk, decide_eq_true rfl]
  rfl
theorem line_no (h : Fld x n) (k : Nat) : (10 : UInt8) ∉ lineS k x := fun hm => by
  have hl := isK_lt (right_isK h.hr)
  unfold lineS headTx at hm
  simp only [List.mem_append, List.mem_cons] at hm
  rcases hm with ((((h1 | h1 | h1) | h1) | h1) | h1)
  · exact itoa_no _ (by decide) h1
  · exact absurd h1 (by decide)
  · exact word_no hl (by decide) h1
  · by_cases ha : aK x.op = 0
    · rw [aTx_no ha] at h1; exact absurd h1 (by simp)
    · rw [aTx_is ha] at h1
      rcases List.mem_cons.1 h1 with h1 | h1
      · exact absurd h1 (by decide)
      · exact itoa_no _ (by decide) h1
  · cases hn : numK x.op with
    | false => rw [iTx_no hn] at h1; exact absurd h1 (by simp)
    | true =>
      rw [iTx_is hn] at h1
      rcases List.mem_cons.1 h1 with h1 | h1
      · exact absurd h1 (by decide)
      · exact itoa_no _ (by decide) h1
  · rcases textK_cases x.op with ht | ht | ht
    · rw [tTx_no ht] at h1; exact absurd h1 (by simp)
    · rw [tTx_any ht] at h1
      rcases List.mem_cons.1 h1 with h1 | h1
      · exact absurd h1 (by decide)
      · exact quoted_no _ h1
    · rw [tTx_name ht] at h1
      rcases List.mem_cons.1 h1 with h1 | h1
      · exact absurd h1 (by decide)
      · exact name_no (right_name h.hr ht) (by decide) h1
theorem Fld.apart (h : Fld x n) : apartS x = true := by
  have hr := h.hr
  unfold apartS
  simp only [rightI, Bool.and_eq_true, decide_eq_true_eq] at hr ⊢
  obtain ⟨⟨⟨⟨h1, h2⟩, h3⟩, h4⟩, h5⟩ := hr
  have h3' : 0 ≤ x.a := h3
  have h4' : x.a < topK x.op n := h4
  refine ⟨⟨⟨⟨h1, h2⟩, ?_⟩, ?_⟩, h5⟩
  · show 0 ≤ if aK x.op = 1 then 0 else x.a
    split <;> omega
  · show (if aK x.op = 1 then 0 else x.a) < topK x.op 1
    unfold topK at h4' ⊢
    by_cases ha : aK x.op = 1
    · rw [if_pos ha, if_pos ha]; omega
    · rw [if_neg ha] at h4'; rw [if_neg ha, if_neg ha]; exact h4'
end
/-- The lines of more code, from a place on. -/
def linesFrom : Nat → List InsV → List UInt8
  | _, [] => []
  | k, x :: d => lineS k x ++ 10 :: linesFrom (k + 1) d
theorem listS_app : ∀ (d c : List InsV), listS (c ++ d) = listS c ++ linesFrom c.length d
  | [], c => by simp [linesFrom]
  | x :: d, c => by
    have := listS_app d (c ++ [x])
    rw [List.append_assoc] at this
    rw [show c ++ x :: d = c ++ ([x] ++ d) from rfl, this, listS_snoc, List.length_append]
    simp [linesFrom]
theorem unlTo_back (m : Int) : ∀ (d c : List InsV) (k : Nat), (linesFrom c.length d).length ≤ k → c.length + d.length ≤ 8192 → (∀ x, x ∈ d → Fld x m) → unlTo k c (linesFrom c.length d) = unlEnd (c ++ d)
  | [], c, k, _, _, _ => by rw [linesFrom, unlTo_nil rfl, List.append_nil]
  | x :: d, c, k, hk, hc, hf => by
    have hx := hf x (by simp)
    obtain ⟨l, hl⟩ : ∃ l, l = linesFrom c.length (x :: d) := ⟨_, rfl⟩
    have e : l = lineS c.length x ++ 10 :: linesFrom (c.length + 1) d := by rw [hl]; rfl
    have hcut : cutL l 10 = (lineS c.length x, linesFrom (c.length + 1) d, true) := by rw [e, cutL_eq, cutR_at _ _ (line_no hx _)]
    have hpos : 0 < l.length := by rw [e, List.length_append, List.length_cons]; omega
    have hok : lineOk c.length l = true := by unfold lineOk; rw [hcut, parse_back hx, hx.apart]; rfl
    have hlen := congrArg List.length e
    simp only [List.length_append, List.length_cons] at hlen
    rw [← hl] at hk ⊢
    simp only [List.length_cons] at hc
    cases k with
    | zero => omega
    | succ k =>
      unfold unlTo
      rw [if_neg (by omega), if_neg (by omega), if_pos hok, hcut, parse_back hx]
      have ih := unlTo_back m d (c ++ [x]) k (by rw [List.length_append, List.length_singleton]; omega) (by rw [List.length_append, List.length_singleton]; omega) (fun y hy => hf y (by simp [hy]))
      rw [List.length_append, List.length_singleton] at ih
      show unlTo k (c ++ [x]) (linesFrom (c.length + 1) d) = _
      have e3 : c ++ [x] ++ d = c ++ x :: d := by simp
      rw [← e3]
      exact ih
/-- Code's text is read as the code. -/
theorem unlS_back {c : List InsV} (hc : c.length ≤ 8192) (hf : ∀ x, x ∈ c → Fld x c.length) (hl : (listS c).length ≤ 1048576) : unlS (listS c) = (c, 0, 0) := by
  have e : listS c = linesFrom 0 c := by
    have := listS_app c []
    simpa [listS, listTo] using this
  unfold unlS
  have hb := unlTo_back c.length c [] _ (Nat.le_refl _) (by simpa using hc) hf
  rw [List.nil_append] at hb
  rw [if_neg (by omega), e]
  refine Eq.trans hb ?_
  refine unlEnd_ok fun j hj => ?_
  have hm : atV c j ∈ c := by
    unfold atV
    rw [List.getD_eq_getElem?_getD, List.getElem?_eq_getElem hj]
    exact List.getElem_mem hj
  exact (hf _ hm).hr
/-- The texts are no longer than the text. -/
theorem text_le {x : InsV} {n : Int} (h : rightI x.ins n = true) (k : Nat) : x.text.size ≤ (lineS k x).length := by
  have : x.text.size ≤ (tTx x.op x.text).length := by
    have e : x.text.data.toList.length = x.text.size := Array.length_toList
    rcases textK_cases x.op with ht | ht | ht
    · rw [right_text h ht]; exact Nat.zero_le _
    · rw [tTx_any ht, List.length_cons, ← e]
      have : ∀ l : List UInt8, l.length ≤ (l.flatMap qByte).length := by
        intro l
        induction l with
        | nil => exact Nat.le_refl _
        | cons c l ih =>
          have : 1 ≤ (qByte c).length := by unfold qByte; split <;> simp
          simp only [List.flatMap_cons, List.length_append, List.length_cons]; omega
      have := this x.text.data.toList
      unfold quotedS
      simp only [List.length_cons, List.length_append]; omega
    · rw [tTx_name ht, List.length_cons, ← e]; omega
  unfold lineS
  simp only [List.length_append]
  omega
theorem texts_list {c : List InsV} (hr : ∀ j, j < c.length → rightI (atV c j).ins c.length = true) : ∀ k, k ≤ c.length → textsTo c k ≤ (listTo c k).length
  | 0, _ => Nat.zero_le _
  | k + 1, hk => by
    have h1 := texts_list hr k (by omega)
    have h2 := text_le (hr k (by omega)) k
    show textsTo c k + (atV c k).text.size ≤ (listTo c k ++ (lineS k (atV c k) ++ [10])).length
    simp only [List.length_append]
    omega
theorem text_by {x : InsV} {n : Int} (h : rightI x.ins n = true) : x.text.size ≤ (insB x).length := by
  have : x.text.size ≤ (tBy x.op x.text).length := by
    have e : x.text.data.toList.length = x.text.size := Array.length_toList
    by_cases ht : textK x.op = 0
    · rw [right_text h ht]; exact Nat.zero_le _
    · rw [tBy_is ht, List.length_append]; omega
  unfold insB
  simp only [List.length_cons, List.length_append]
  omega
theorem texts_bytes {c : List InsV} (hr : ∀ j, j < c.length → rightI (atV c j).ins c.length = true) : ∀ k, k ≤ c.length → textsTo c k ≤ (bytesTo c k).length
  | 0, _ => Nat.zero_le _
  | k + 1, hk => by
    have h1 := texts_bytes hr k (by omega)
    have h2 := text_by (hr k (by omega))
    rw [bytesTo_succ c k (by omega), List.length_append]
    show textsTo c k + (atV c k).text.size ≤ _
    omega
theorem at_mem {c : List InsV} {j : Nat} (hj : j < c.length) : atV c j ∈ c := by
  unfold atV
  rw [List.getD_eq_getElem?_getD, List.getElem?_eq_getElem hj]
  exact List.getElem_mem hj
end Go.Proofs.YtefijgdbnjmifaaGreatDoor
