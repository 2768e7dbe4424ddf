/- Floats that are whole numbers, in plain Lean: what the standard's operations give of them. -/
import Derived.Test.YtakailalhpkfdaaNodV
namespace Go.Proofs.Ytakailalhpkfdaa
open Go.RowKit Ieee

theorem f64_format : FloatKind.f64.format = Ieee.double := rfl
/-- A number: neither infinite nor none. -/
def isNum (x : Nat) : Prop := ∃ s m e, Ieee.double.read x = .number s m e
theorem sub_self {x : Nat} (h : isNum x) : FloatKind.f64.format.sub x x = some 0 := by
  obtain ⟨s, m, e, h⟩ := h
  show ((Ieee.double.read x).sum (Ieee.double.read x).opposite).map Ieee.double.write = some 0
  rw [h]
  have h0 : signed s m (e - min e e).toNat + signed (!s) m (e - min e e).toNat = 0 := by
    unfold signed
    cases s <;> simp <;> omega
  show Option.map _ (some (Datum.number (if signed s m (e - min e e).toNat + signed (!s) m (e - min e e).toNat = 0 then s && !s else _) _ _)) = some 0
  rw [if_pos h0, h0]
  cases s <;> rfl
theorem order_self {x : Nat} (h : isNum x) : FloatKind.f64.format.order x x = some .eq := by
  obtain ⟨s, m, e, h⟩ := h
  show (Ieee.double.read x).order (Ieee.double.read x) = some .eq
  rw [h]
  show some (compare _ _) = some .eq
  rw [Int.compare_eq_eq.2 rfl]
theorem isNum_zero : isNum 0 := ⟨false, 0, Ieee.double.leastPlace, rfl⟩
theorem cut_exact (neg : Bool) (x d : Nat) : Toward.even.cut neg (x * 2 ^ d) d = x := by
  by_cases hx : x = 0
  · subst hx
    unfold Toward.cut
    simp
  · have hl : d ≤ (x * 2 ^ d).log2 := by
      rw [Nat.le_log2 (by have := Nat.two_pow_pos d; exact Nat.mul_ne_zero hx (by omega))]
      exact Nat.le_mul_of_pos_left _ (by omega)
    unfold Toward.cut
    simp only
    rw [Nat.min_eq_left (by omega), Nat.one_shiftLeft, Nat.mul_div_cancel _ (Nat.two_pow_pos d), Nat.mul_mod_left]
    have hp := Nat.two_pow_pos d
    have h1 : decide (2 ^ d < 2 * 0) = false := decide_eq_false (by omega)
    have h2 : (2 ^ d == 2 * 0) = false := beq_eq_false_iff_ne.2 (by omega)
    rw [h1, h2]
    rfl
theorem cut_zero (neg : Bool) (x d : Nat) : Toward.zero.cut neg (x * 2 ^ d) d = x := by
  by_cases hx : x = 0
  · subst hx
    unfold Toward.cut
    simp
  · have hl : d ≤ (x * 2 ^ d).log2 := by
      rw [Nat.le_log2 (by have := Nat.two_pow_pos d; exact Nat.mul_ne_zero hx (by omega))]
      exact Nat.le_mul_of_pos_left _ (by omega)
    unfold Toward.cut
    simp only
    rw [Nat.min_eq_left (by omega), Nat.one_shiftLeft, Nat.mul_div_cancel _ (Nat.two_pow_pos d)]
    rfl
theorem log2_shift {m k : Nat} (hm : m ≠ 0) : (m * 2 ^ k).log2 = m.log2 + k := by
  have hp := Nat.two_pow_pos k
  rw [Nat.log2_eq_iff (Nat.mul_ne_zero hm (by omega))]
  have h1 := (Nat.log2_eq_iff hm (k := m.log2)).1 rfl
  rw [Nat.pow_add, show m.log2 + k + 1 = (m.log2 + 1) + k by omega, Nat.pow_add]
  exact ⟨Nat.mul_le_mul_right _ h1.1, Nat.mul_lt_mul_of_pos_right h1.2 hp⟩
/-- How far a whole number's digits are moved up. -/
def upOf (m : Nat) : Nat := 52 - m.log2
theorem log2_le52 {m : Nat} (hm : m ≠ 0) (h : m < 9007199254740992) : m.log2 ≤ 52 := by
  have := (Nat.log2_lt hm (k := 53)).2 h
  omega
theorem up_bounds {m : Nat} (hm : m ≠ 0) (h : m < 9007199254740992) : 4503599627370496 ≤ m * 2 ^ upOf m ∧ m * 2 ^ upOf m < 9007199254740992 := by
  have hl := log2_le52 hm h
  have h1 := (Nat.log2_eq_iff hm (k := m.log2)).1 rfl
  have e : 2 ^ m.log2 * 2 ^ upOf m = 4503599627370496 := by
    rw [← Nat.pow_add, show m.log2 + upOf m = 52 by unfold upOf; omega]
  have e2 : 2 ^ (m.log2 + 1) * 2 ^ upOf m = 9007199254740992 := by
    rw [← Nat.pow_add, show m.log2 + 1 + upOf m = 53 by unfold upOf; omega]
  have hp := Nat.two_pow_pos (upOf m)
  constructor
  · rw [← e]; exact Nat.mul_le_mul_right _ h1.1
  · rw [← e2]; exact Nat.mul_lt_mul_of_pos_right h1.2 hp
/-- The rung of a whole number. -/
def rungOf (m : Nat) : Nat := (m.log2 + 1022) * 4503599627370496 + m * 2 ^ upOf m
theorem least_double : Ieee.double.leastPlace = -1074 := by decide
theorem binade_double : Ieee.double.binade = 4503599627370496 := by decide
theorem inf_double : Ieee.double.infRung = 9218868437227405312 := by decide
theorem sign_double : Ieee.double.signWeight = 9223372036854775808 := by decide
theorem rung_bounds {m : Nat} (hm : m ≠ 0) (h : m < 9007199254740992) : 4503599627370496 ≤ rungOf m ∧ rungOf m < 9218868437227405312 := by
  have hl := log2_le52 hm h
  have hb := up_bounds hm h
  unfold rungOf
  omega
theorem nearest_whole (neg : Bool) {m : Nat} (hm : m ≠ 0) (h : m < 9007199254740992) (k : Nat) : Ieee.double.nearest neg (m * 2 ^ k) (-(k : Int)) = Ieee.double.word neg (rungOf m) := by
  have hl := log2_le52 hm h
  have hp := Nat.two_pow_pos k
  have hb := rung_bounds hm h
  unfold Format.nearest
  rw [if_neg (Nat.mul_ne_zero hm (by omega)), log2_shift hm, least_double, binade_double, inf_double]
  have hfb : ((Ieee.double.fractionBits : Nat) : Int) = 52 := rfl
  have elast : max (-(k : Int) + ((m.log2 + k : Nat) : Int) - (Ieee.double.fractionBits : Int)) (-1074) = -((upOf m : Nat) : Int) := by
    rw [hfb]; unfold upOf; omega
  simp only [elast]
  have ecut : Toward.even.cut neg ((m * 2 ^ k) <<< (-(k : Int) - -((upOf m : Nat) : Int)).toNat) (-((upOf m : Nat) : Int) - -(k : Int)).toNat = m * 2 ^ upOf m := by
    by_cases hk : k ≤ upOf m
    · rw [show (-(k : Int) - -((upOf m : Nat) : Int)).toNat = upOf m - k by omega, show (-((upOf m : Nat) : Int) - -(k : Int)).toNat = 0 by omega, Nat.shiftLeft_eq, Nat.mul_assoc, ← Nat.pow_add, show k + (upOf m - k) = upOf m by omega]
      have := cut_exact neg (m * 2 ^ upOf m) 0
      rwa [Nat.pow_zero, Nat.mul_one] at this
    · rw [show (-(k : Int) - -((upOf m : Nat) : Int)).toNat = 0 by omega, show (-((upOf m : Nat) : Int) - -(k : Int)).toNat = k - upOf m by omega, Nat.shiftLeft_eq, Nat.pow_zero, Nat.mul_one]
      have := cut_exact neg (m * 2 ^ upOf m) (k - upOf m)
      rwa [Nat.mul_assoc, ← Nat.pow_add, show upOf m + (k - upOf m) = k by omega] at this
  rw [ecut, show (-((upOf m : Nat) : Int) - -1074).toNat = m.log2 + 1022 by unfold upOf; omega]
  congr 1
  exact Nat.min_eq_left (by have := hb.2; unfold rungOf at this; omega)
theorem read_word (neg : Bool) {m : Nat} (hm : m ≠ 0) (h : m < 9007199254740992) : Ieee.double.read (Ieee.double.word neg (rungOf m)) = .number neg (m * 2 ^ upOf m) (-((upOf m : Nat) : Int)) := by
  have hl := log2_le52 hm h
  have hb := rung_bounds hm h
  have hu := up_bounds hm h
  have ed : rungOf m / 4503599627370496 = m.log2 + 1023 := by unfold rungOf; omega
  have em : rungOf m % 4503599627370496 = m * 2 ^ upOf m - 4503599627370496 := by unfold rungOf; omega
  unfold Format.read
  rw [sign_double, binade_double, inf_double, least_double]
  have e1 : Ieee.double.word neg (rungOf m) % 9223372036854775808 = rungOf m := by
    unfold Format.word; rw [sign_double]; cases neg <;> simp <;> omega
  have e2 : (Ieee.double.word neg (rungOf m) / 9223372036854775808 % 2 == 1) = neg := by
    unfold Format.word; rw [sign_double]
    cases neg with
    | false => rw [if_neg (by simp)]; rw [show rungOf m / 9223372036854775808 = 0 by omega]; rfl
    | true => rw [if_pos rfl]; rw [show (9223372036854775808 + rungOf m) / 9223372036854775808 = 1 by omega]; rfl
  simp only [e1, e2]
  rw [if_neg (by omega), if_pos (by omega), ed, em]
  have a1 : 4503599627370496 + (m * 2 ^ upOf m - 4503599627370496) = m * 2 ^ upOf m := by omega
  have a2 : (-1074 : Int) + ((m.log2 + 1023 - 1 : Nat) : Int) = -((upOf m : Nat) : Int) := by unfold upOf; omega
  rw [a1, a2]
/-- A whole number as a float. -/
def fl (n : Int) : Nat := floatOfInt .f64 n
theorem fl_def (n : Int) : fl n = Ieee.double.nearest (decide (n < 0)) n.natAbs 0 := rfl
theorem fl_zero : fl 0 = 0 := by decide
theorem fl_word {n : Int} (hn : n ≠ 0) (h : n.natAbs < 9007199254740992) : fl n = Ieee.double.word (decide (n < 0)) (rungOf n.natAbs) := by
  have := nearest_whole (decide (n < 0)) (m := n.natAbs) (by omega) h 0
  rw [Nat.pow_zero, Nat.mul_one] at this
  rw [fl_def]; exact this
/-- What a whole number's float stands for. -/
structure Stands (x : Nat) (n : Int) (mag : Nat) (place : Int) : Prop where
  read : Ieee.double.read x = .number (decide (n < 0)) mag place
  low : place ≤ 0
  all : ∀ base, base ≤ place → signed (decide (n < 0)) mag (place - base).toNat = n * 2 ^ (-base).toNat
theorem fl_stands {n : Int} (h : n.natAbs < 9007199254740992) : ∃ mag place, Stands (fl n) n mag place := by
  by_cases hn : n = 0
  · subst hn
    refine ⟨0, -1074, by rw [fl_zero]; rfl, by omega, fun base _ => ?_⟩
    unfold signed; simp
  · refine ⟨n.natAbs * 2 ^ upOf n.natAbs, -((upOf n.natAbs : Nat) : Int), by rw [fl_word hn h]; exact read_word _ (by omega) h, by omega, fun base hb => ?_⟩
    have e : (n.natAbs * 2 ^ upOf n.natAbs) <<< (-((upOf n.natAbs : Nat) : Int) - base).toNat = n.natAbs * 2 ^ (-base).toNat := by
      rw [Nat.shiftLeft_eq, Nat.mul_assoc, ← Nat.pow_add]
      congr 2
      omega
    unfold signed
    rw [e]
    by_cases hneg : n < 0
    · rw [decide_eq_true hneg, if_pos rfl]
      have : ((n.natAbs : Nat) : Int) = -n := by omega
      rw [Int.natCast_mul, this, Int.natCast_pow]
      simp [Int.neg_mul]
    · rw [decide_eq_false hneg, if_neg (by simp)]
      have : ((n.natAbs : Nat) : Int) = n := by omega
      rw [Int.natCast_mul, this, Int.natCast_pow]
      rfl
theorem fl_num {n : Int} (h : n.natAbs < 9007199254740992) : isNum (fl n) := by
  obtain ⟨mag, place, s⟩ := fl_stands h
  exact ⟨_, _, _, s.read⟩
theorem pow_pos' (q : Nat) : (0 : Int) < 2 ^ q := Int.pow_pos (by decide)
theorem fl_order {a b : Int} (ha : a.natAbs < 9007199254740992) (hb : b.natAbs < 9007199254740992) : FloatKind.f64.format.order (fl a) (fl b) = some (compare a b) := by
  obtain ⟨m, i, sa⟩ := fl_stands ha
  obtain ⟨k, j, sb⟩ := fl_stands hb
  show (Ieee.double.read (fl a)).order (Ieee.double.read (fl b)) = _
  rw [sa.read, sb.read]
  show some (compare (signed _ m (i - min i j).toNat) (signed _ k (j - min i j).toNat)) = _
  rw [sa.all _ (by omega), sb.all _ (by omega)]
  have hp := pow_pos' (-(min i j)).toNat
  congr 1
  rcases Int.lt_trichotomy a b with h | h | h
  · rw [Int.compare_eq_lt.2 h, Int.compare_eq_lt.2 (Int.mul_lt_mul_of_pos_right h hp)]
  · subst h; rw [Int.compare_eq_eq.2 rfl, Int.compare_eq_eq.2 rfl]
  · rw [Int.compare_eq_gt.2 h, Int.compare_eq_gt.2 (Int.mul_lt_mul_of_pos_right h hp)]
theorem fl_add {a b : Int} (ha : a.natAbs < 9007199254740992) (hb : b.natAbs < 9007199254740992) (hab : (a + b).natAbs < 9007199254740992) : FloatKind.f64.format.add (fl a) (fl b) = some (fl (a + b)) := by
  obtain ⟨m, i, sa⟩ := fl_stands ha
  obtain ⟨k, j, sb⟩ := fl_stands hb
  show ((Ieee.double.read (fl a)).sum (Ieee.double.read (fl b))).map Ieee.double.write = _
  rw [sa.read, sb.read]
  show Option.map _ (some (Datum.number (if signed _ m (i - min i j).toNat + signed _ k (j - min i j).toNat = 0 then _ else _) _ _)) = _
  rw [sa.all _ (by omega), sb.all _ (by omega), ← Int.add_mul]
  have hp := pow_pos' (-(min i j)).toNat
  have hl : min i j ≤ 0 := by have := sa.low; omega
  obtain ⟨q, hq⟩ : ∃ q, q = (-(min i j)).toNat := ⟨_, rfl⟩
  have hmin : min i j = -(q : Int) := by omega
  rw [hmin, show (- -(q : Int)).toNat = q by omega]
  by_cases h0 : a + b = 0
  · rw [h0, Int.zero_mul, if_pos rfl]
    have : (decide (a < 0) && decide (b < 0)) = false := by
      by_cases h1 : a < 0
      · rw [decide_eq_false (p := b < 0) (by omega), Bool.and_false]
      · rw [decide_eq_false h1, Bool.false_and]
    rw [this, fl_zero]
    rfl
  · have hne : (a + b) * 2 ^ q ≠ 0 := Int.mul_ne_zero h0 (by have := pow_pos' q; omega)
    rw [if_neg hne]
    have en : decide ((a + b) * 2 ^ q < 0) = decide (a + b < 0) := by
      by_cases h1 : a + b < 0
      · rw [decide_eq_true h1, decide_eq_true (Int.mul_neg_of_neg_of_pos h1 (pow_pos' q))]
      · rw [decide_eq_false h1, decide_eq_false]
        have := Int.mul_nonneg (show 0 ≤ a + b by omega) (Int.le_of_lt (pow_pos' q))
        omega
    have ea : ((a + b) * 2 ^ q).natAbs = (a + b).natAbs * 2 ^ q := by
      rw [Int.natAbs_mul, Int.natAbs_pow]; rfl
    show some (Ieee.double.nearest (decide _) _ _) = _
    rw [en, ea, nearest_whole _ (by omega) hab q, fl_word h0 hab]
theorem fl_toInt {n : Int} (h : n.natAbs < 9007199254740992) : (FloatKind.f64.decode (fl n)).toInt .zero = some n := by
  show (Ieee.double.read (fl n)).toInt .zero = some n
  by_cases hn : n = 0
  · subst hn; rw [fl_zero]; rfl
  · rw [fl_word hn h, read_word _ (by omega) h]
    show some (signed (decide (n < 0)) (Toward.zero.cut _ ((n.natAbs * 2 ^ upOf n.natAbs) <<< (-((upOf n.natAbs : Nat) : Int)).toNat) (- -((upOf n.natAbs : Nat) : Int)).toNat) 0) = _
    rw [show (-((upOf n.natAbs : Nat) : Int)).toNat = 0 by omega, show (- -((upOf n.natAbs : Nat) : Int)).toNat = upOf n.natAbs by omega, Nat.shiftLeft_zero, cut_zero]
    congr 1
    unfold signed
    rw [Nat.shiftLeft_zero]
    by_cases hneg : n < 0
    · rw [decide_eq_true hneg, if_pos rfl]; omega
    · rw [decide_eq_false hneg, if_neg (by simp)]; omega
theorem xor_low {r : Nat} (h : r < 9223372036854775808) : r ^^^ 9223372036854775808 = 9223372036854775808 + r := by
  have e : (9223372036854775808 : Nat) = 2 ^ 63 := by decide
  rw [e] at h ⊢
  have e2 : 2 ^ 63 + r = 2 ^ 63 ||| r := by
    have := Nat.two_pow_add_eq_or_of_lt h 1
    rwa [Nat.mul_one] at this
  rw [e2]
  apply Nat.eq_of_testBit_eq
  intro i
  rw [Nat.testBit_xor, Nat.testBit_or, Nat.testBit_two_pow]
  by_cases hi : 63 = i
  · subst hi
    rw [Nat.testBit_lt_two_pow h]; rfl
  · rw [decide_eq_false hi, Bool.xor_false, Bool.false_or]
theorem xor_high {r : Nat} (h : r < 9223372036854775808) : (9223372036854775808 + r) ^^^ 9223372036854775808 = r := by
  rw [← xor_low h, Nat.xor_assoc, Nat.xor_self, Nat.xor_zero]
theorem fl_neg {n : Int} (hn : n ≠ 0) (h : n.natAbs < 9007199254740992) : fl n ^^^ 9223372036854775808 = fl (-n) := by
  have hb := rung_bounds (m := n.natAbs) (by omega) h
  rw [fl_word hn h, fl_word (n := -n) (by omega) (by omega), show (-n).natAbs = n.natAbs by omega]
  unfold Format.word
  rw [sign_double]
  by_cases h0 : n < 0
  · rw [decide_eq_true h0, decide_eq_false (show ¬ -n < 0 by omega), if_pos rfl, if_neg (by simp)]
    exact xor_high (by omega)
  · rw [decide_eq_false h0, decide_eq_true (show -n < 0 by omega), if_neg (by simp), if_pos rfl]
    exact xor_low (by omega)
theorem fl_lt (n : Int) (h : n.natAbs < 9007199254740992) : fl n < 18446744073709551616 := by
  by_cases hn : n = 0
  · subst hn; rw [fl_zero]; decide
  · have hb := rung_bounds (m := n.natAbs) (by omega) h
    rw [fl_word hn h]
    unfold Format.word
    rw [sign_double]
    split <;> omega
theorem fl_not_negZ {n : Int} (h : n.natAbs < 9007199254740992) : fl n ≠ negZ := by
  by_cases hn : n = 0
  · subst hn; rw [fl_zero]; decide
  · have hb := rung_bounds (m := n.natAbs) (by omega) h
    rw [fl_word hn h]
    unfold Format.word negZ
    rw [sign_double]
    split <;> omega
end Go.Proofs.Ytakailalhpkfdaa
