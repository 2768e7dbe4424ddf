/- Plain laws on texts that say numbers. -/
import Derived.Test.YtefijgdbnjmifaaDoorWholeP
import Derived.Lib.IndexBytes
import Derived.Lib.ParseIntB
import Derived.Lib.ItoaNum
import Derived.Laws.Strings
namespace Go.Proofs.YtefijgdbnjmifaaDoor
open Go.RowKit

def digB (c : UInt8) : Bool := decide (48 ≤ c.toNat) && decide (c.toNat ≤ 57)
def allDig (l : List UInt8) : Bool := l.all digB
def zeroLed (l : List UInt8) : Bool := decide (l.head? = some 48) && decide (1 < l.length)
def bodyOk (t : List UInt8) : Bool := !t.isEmpty && !zeroLed t && allDig t
def negB (l : List UInt8) : Bool := decide (l.head? = some 45)
def rightB (l : List UInt8) : Bool := if negB l then !(l.tail == [48]) && bodyOk l.tail else bodyOk l
theorem data_len (s : ByteArray) : s.data.toList.length = s.size := by rw [Array.length_toList]; rfl
theorem get_data (s : ByteArray) (k : Nat) (h : k < s.size) : s.data.toList[k]'(by rw [data_len]; exact h) = s[k] := rfl
theorem head_data (s : ByteArray) (h : 0 < s.size) : s.data.toList.head? = some s[0] := by
  rw [List.head?_eq_getElem?, List.getElem?_eq_getElem (by rw [data_len]; exact h)]; rfl
theorem take_succ_dig (s : ByteArray) (k : Nat) (h : k < s.size) : allDig (s.data.toList.take (k + 1)) = (allDig (s.data.toList.take k) && digB s[k]) := by
  rw [List.take_succ_eq_append_getElem (by rw [data_len]; exact h), allDig, List.all_append]
  simp [allDig, get_data s k h]
theorem dig_yes {c : UInt8} (h1 : (48 : Int) ≤ (c.toNat : Int)) (h2 : (c.toNat : Int) ≤ 57) : digB c = true := by
  simp only [digB, Bool.and_eq_true, decide_eq_true_eq]; omega
theorem dig_low {c : UInt8} (h1 : (c.toNat : Int) < 48) : digB c = false := by
  simp only [digB, Bool.and_eq_false_iff, decide_eq_false_iff_not]; omega
theorem dig_high {c : UInt8} (h1 : (57 : Int) < (c.toNat : Int)) : digB c = false := by
  simp only [digB, Bool.and_eq_false_iff, decide_eq_false_iff_not]; omega
theorem allDig_no (s : ByteArray) (k : Nat) (h : k < s.size) (hd : digB s[k] = false) : allDig s.data.toList = false := by
  rw [allDig, List.all_eq_false]
  exact ⟨s[k], by rw [← get_data s k h]; exact List.getElem_mem _, by simp [hd]⟩
theorem allDig_end (s : ByteArray) (k : Nat) (h : s.size ≤ k) (hd : allDig (s.data.toList.take k) = true) : allDig s.data.toList = true := by
  rwa [List.take_of_length_le (by rw [data_len]; exact h)] at hd
theorem tail_extract (s : ByteArray) : (s.extract 1 s.size).data.toList = s.data.toList.tail := by
  rw [Lib.extract_to_end, List.drop_one]
theorem size_extract1 (s : ByteArray) : (s.extract 1 s.size).size = s.size - 1 := by rw [ByteArray.size_extract]; omega

/-- What the digits say. -/
def decVal (a : Nat) (l : List UInt8) : Nat := l.foldl (fun a c => 10 * a + (c.toNat - 48)) a
theorem decVal_nil (a : Nat) : decVal a [] = a := rfl
theorem decVal_cons (a : Nat) (c : UInt8) (r : List UInt8) : decVal a (c :: r) = decVal (10 * a + (c.toNat - 48)) r := by unfold decVal; rw [List.foldl_cons]
def bodyOf (l : List UInt8) : List UInt8 := if negB l then l.tail else l
def readN (l : List UInt8) : Nat := decVal 0 (bodyOf l)
def readOk (l : List UInt8) : Bool := if negB l then decide (readN l ≤ 9223372036854775808) else decide (readN l < 9223372036854775808)
def readVal (l : List UInt8) : Int := if rightB l && readOk l then (if negB l then -(readN l : Int) else readN l) else 0
def readErr (l : List UInt8) : Int := if rightB l then (if readOk l then 0 else 2) else 9

theorem decVal_le : ∀ (l : List UInt8) (a : Nat), a ≤ decVal a l
  | [], a => by rw [decVal_nil]; exact Nat.le_refl _
  | c :: r, a => by
    have := decVal_le r (10 * a + (c.toNat - 48))
    rw [decVal_cons]; omega
theorem decVal_snoc (l : List UInt8) (c : UInt8) : decVal 0 (l ++ [c]) = 10 * decVal 0 l + (c.toNat - 48) := by unfold decVal; rw [List.foldl_append]; rfl
theorem decVal_app (l r : List UInt8) : decVal 0 l ≤ decVal 0 (l ++ r) := by
  have : decVal 0 (l ++ r) = decVal (decVal 0 l) r := by unfold decVal; rw [List.foldl_append]
  rw [this]; exact decVal_le _ _
theorem decVal_take_le (l : List UInt8) (k : Nat) : decVal 0 (l.take k) ≤ decVal 0 l := by
  have := decVal_app (l.take k) (l.drop k)
  rwa [List.take_append_drop] at this
theorem decVal_step (l : List UInt8) (k : Nat) (h : k < l.length) : decVal 0 (l.take (k + 1)) = 10 * decVal 0 (l.take k) + (l[k].toNat - 48) := by
  rw [List.take_succ_eq_append_getElem h, decVal_snoc]
theorem allDig_at {l : List UInt8} (h : allDig l = true) {k : Nat} (hk : k < l.length) : 48 ≤ l[k].toNat ∧ l[k].toNat ≤ 57 := by
  have := (List.all_eq_true.1 h) l[k] (List.getElem_mem hk)
  simpa [digB] using this
theorem parseM_eq (M : Nat) (hM : M = 18446744073709551615) : ∀ (l : List UInt8) (a : Nat), allDig l = true → Lib.parseUintM M a l = if decVal a l ≤ M ∨ l = [] then .ok (decVal a l) else .range
  | [], a, _ => by rw [decVal_nil, if_pos (.inr rfl)]; rfl
  | c :: r, a, h => by
    simp only [allDig, List.all_cons, Bool.and_eq_true, digB, decide_eq_true_eq] at h
    obtain ⟨⟨h1, h2⟩, h3⟩ := h
    rw [Lib.parseUintM, if_pos ⟨h1, h2⟩]
    have hle := decVal_le r (10 * a + (c.toNat - 48))
    by_cases h4 : 1844674407370955162 ≤ a
    · rw [if_pos h4, if_neg]
      rintro (h5 | h5)
      · rw [decVal_cons] at h5; omega
      · cases h5
    · rw [if_neg h4, Nat.mul_comm a 10]
      by_cases h6 : M < 10 * a + (c.toNat - 48)
      · rw [if_pos h6, if_neg]
        rintro (h5 | h5)
        · rw [decVal_cons] at h5; omega
        · cases h5
      · rw [if_neg h6, parseM_eq M hM r _ h3, decVal_cons]
        by_cases h7 : decVal (10 * a + (c.toNat - 48)) r ≤ M
        · rw [if_pos (.inl h7), if_pos (.inl h7)]
        · cases r with
          | nil => exact absurd (by rw [decVal_nil]; omega) h7
          | cons => rw [if_neg (by simp [h7]), if_neg (by simp [h7])]
theorem parse_right (l : List UInt8) (h : rightB l = true) : Lib.parseIntB 64 l = if readOk l then .ok (if negB l then -(readN l : Int) else readN l) else .range := by
  cases l with
  | nil => simp [rightB, negB, bodyOk] at h
  | cons c r =>
    unfold readOk readN bodyOf at *
    by_cases hn : c = 45
    · subst hn
      have e : negB (45 :: r) = true := by simp [negB]
      simp only [rightB, e, if_true, List.tail_cons, Bool.and_eq_true, bodyOk] at h ⊢
      obtain ⟨_, ⟨hne, _⟩, hd⟩ := h
      have hr : r ≠ [] := by rintro rfl; simp at hne
      simp only [Lib.parseIntB, Lib.parseUintB]
      have c45 : (45 : UInt8).toNat = 45 := rfl
      simp only [c45, or_true, if_true, if_neg hr]
      rw [parseM_eq _ (by decide) r 0 hd]
      by_cases h1 : decVal 0 r ≤ 9223372036854775808
      · rw [if_pos (.inl (by omega))]
        simp [h1, show ¬ 9223372036854775808 < decVal 0 r by omega]
      · by_cases h2 : decVal 0 r ≤ 2 ^ 64 - 1
        · rw [if_pos (.inl h2)]
          simp [h1, show 9223372036854775808 < decVal 0 r by omega]
        · rw [if_neg (by simp [hr]; omega)]
          simp [h1]
    · have e : negB (c :: r) = false := by simp [negB, hn]
      simp only [rightB, e, Bool.false_eq_true, if_false, Bool.and_eq_true, bodyOk] at h ⊢
      obtain ⟨⟨_, _⟩, hd⟩ := h
      have hc : digB c = true := by simp only [allDig, List.all_cons, Bool.and_eq_true] at hd; exact hd.1
      simp only [digB, Bool.and_eq_true, decide_eq_true_eq] at hc
      have h43 : ¬ (c.toNat = 43 ∨ c.toNat = 45) := by omega
      have h45 : ¬ c.toNat = 45 := by omega
      simp only [Lib.parseIntB]
      rw [if_neg h43, Lib.parseUintB, if_neg (by simp), parseM_eq _ (by decide) (c :: r) 0 hd]
      simp only [h45, not_false_eq_true, true_and, false_and, if_false]
      by_cases h1 : decVal 0 (c :: r) < 9223372036854775808
      · rw [if_pos (.inl (by omega))]
        simp [h1, show ¬ 9223372036854775808 ≤ decVal 0 (c :: r) by omega]
      · by_cases h2 : decVal 0 (c :: r) ≤ 2 ^ 64 - 1
        · rw [if_pos (.inl h2)]
          simp [h1, show 9223372036854775808 ≤ decVal 0 (c :: r) by omega]
        · rw [if_neg (by simp; omega)]
          simp [h1]
end Go.Proofs.YtefijgdbnjmifaaDoor
