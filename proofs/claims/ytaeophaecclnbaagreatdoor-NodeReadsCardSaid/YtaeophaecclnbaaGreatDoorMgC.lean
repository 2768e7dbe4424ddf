/- Floats that are whole numbers, in plain Lean: what the standard's operations give of them. Whether a complex number is fine, at any bits: the program's functions, walked. The reader of bytes, walked: a complex number. Nodes in a row of a call's own, while the reader goes on. -/
import Derived.Test.YtaeophaecclnbaaGreatDoorMgA
import Derived.Laws.Externs
import Derived.Laws.ComplexArith
import Derived.Deep.QuietTactic
import Derived.BigQuiet
import Derived.RegionTactic
import Derived.Test.YtaeophaecclnbaaGreatDoorMgB
import Derived.Laws.AppendOwnNone
namespace Go.Proofs.YtaeophaecclnbaaGreatDoor
open Go.RowKit Ieee

theorem f64_format : FloatKind.f64.format = Ieee.double := rfl
/-- A number: neither infinite nor none. -/
def isNum (x : Nat) : Prop := ∃ s m e, Ieee.double.read x = .number s m e
theorem sub_self {x : Nat} (h : isNum x) : FloatKind.f64.format.sub x x = some 0 := by
  obtain ⟨s, m, e, h⟩ := h
  show ((Ieee.double.read x).sum (Ieee.double.read x).opposite).map Ieee.double.write = some 0
  rw [h]
  have h0 : signed s m (e - min e e).toNat + signed (!s) m (e - min e e).toNat = 0 := by
    unfold signed
    cases s <;> simp <;> omega
  show Option.map _ (some (Datum.number (if signed s m (e - min e e).toNat + signed (!s) m (e - min e e).toNat = 0 then s && !s else _) _ _)) = some 0
  rw [if_pos h0, h0]
  cases s <;> rfl
theorem order_self {x : Nat} (h : isNum x) : FloatKind.f64.format.order x x = some .eq := by
  obtain ⟨s, m, e, h⟩ := h
  show (Ieee.double.read x).order (Ieee.double.read x) = some .eq
  rw [h]
  show some (compare _ _) = some .eq
  rw [Int.compare_eq_eq.2 rfl]
theorem isNum_zero : isNum 0 := ⟨false, 0, Ieee.double.leastPlace, rfl⟩
theorem cut_exact (neg : Bool) (x d : Nat) : Toward.even.cut neg (x * 2 ^ d) d = x := by
  by_cases hx : x = 0
  · subst hx
    unfold Toward.cut
    simp
  · have hl : d ≤ (x * 2 ^ d).log2 := by
      rw [Nat.le_log2 (by have := Nat.two_pow_pos d; exact Nat.mul_ne_zero hx (by omega))]
      exact Nat.le_mul_of_pos_left _ (by omega)
    unfold Toward.cut
    simp only
    rw [Nat.min_eq_left (by omega), Nat.one_shiftLeft, Nat.mul_div_cancel _ (Nat.two_pow_pos d), Nat.mul_mod_left]
    have hp := Nat.two_pow_pos d
    have h1 : decide (2 ^ d < 2 * 0) = false := decide_eq_false (by omega)
    have h2 : (2 ^ d == 2 * 0) = false := beq_eq_false_iff_ne.2 (by omega)
    rw [h1, h2]
    rfl
theorem cut_zero (neg : Bool) (x d : Nat) : Toward.zero.cut neg (x * 2 ^ d) d = x := by
  by_cases hx : x = 0
  · subst hx
    unfold Toward.cut
    simp
  · have hl : d ≤ (x * 2 ^ d).log2 := by
      rw [Nat.le_log2 (by have := Nat.two_pow_pos d; exact Nat.mul_ne_zero hx (by omega))]
      exact Nat.le_mul_of_pos_left _ (by omega)
    unfold Toward.cut
    simp only
    rw [Nat.min_eq_left (by omega), Nat.one_shiftLeft, Nat.mul_div_cancel _ (Nat.two_pow_pos d)]
    rfl
theorem log2_shift {m k : Nat} (hm : m ≠ 0) : (m * 2 ^ k).log2 = m.log2 + k := by
  have hp := Nat.two_pow_pos k
  rw [Nat.log2_eq_iff (Nat.mul_ne_zero hm (by omega))]
  have h1 := (Nat.log2_eq_iff hm (k := m.log2)).1 rfl
  rw [Nat.pow_add, show m.log2 + k + 1 = (m.log2 + 1) + k by omega, Nat.pow_add]
  exact ⟨Nat.mul_le_mul_right _ h1.1, Nat.mul_lt_mul_of_pos_right h1.2 hp⟩
/-- How far a whole number's digits are moved up. -/
def upOf (m : Nat) : Nat := 52 - m.log2
theorem log2_le52 {m : Nat} (hm : m ≠ 0) (h : m < 9007199254740992) : m.log2 ≤ 52 := by
  have := (Nat.log2_lt hm (k := 53)).2 h
  omega
theorem up_bounds {m : Nat} (hm : m ≠ 0) (h : m < 9007199254740992) : 4503599627370496 ≤ m * 2 ^ upOf m ∧ m * 2 ^ upOf m < 9007199254740992 := by
  have hl := log2_le52 hm h
  have h1 := (Nat.log2_eq_iff hm (k := m.log2)).1 rfl
  have e : 2 ^ m.log2 * 2 ^ upOf m = 4503599627370496 := by
    rw [← Nat.pow_add, show m.log2 + upOf m = 52 by unfold upOf; omega]
  have e2 : 2 ^ (m.log2 + 1) * 2 ^ upOf m = 9007199254740992 := by
    rw [← Nat.pow_add, show m.log2 + 1 + upOf m = 53 by unfold upOf; omega]
  have hp := Nat.two_pow_pos (upOf m)
  constructor
  · rw [← e]; exact Nat.mul_le_mul_right _ h1.1
  · rw [← e2]; exact Nat.mul_lt_mul_of_pos_right h1.2 hp
/-- The rung of a whole number. -/
def rungOf (m : Nat) : Nat := (m.log2 + 1022) * 4503599627370496 + m * 2 ^ upOf m
theorem least_double : Ieee.double.leastPlace = -1074 := by decide
theorem binade_double : Ieee.double.binade = 4503599627370496 := by decide
theorem inf_double : Ieee.double.infRung = 9218868437227405312 := by decide
theorem sign_double : Ieee.double.signWeight = 9223372036854775808 := by decide
theorem rung_bounds {m : Nat} (hm : m ≠ 0) (h : m < 9007199254740992) : 4503599627370496 ≤ rungOf m ∧ rungOf m < 9218868437227405312 := by
  have hl := log2_le52 hm h
  have hb := up_bounds hm h
  unfold rungOf
  omega
theorem nearest_whole (neg : Bool) {m : Nat} (hm : m ≠ 0) (h : m < 9007199254740992) (k : Nat) : Ieee.double.nearest neg (m * 2 ^ k) (-(k : Int)) = Ieee.double.word neg (rungOf m) := by
  have hl := log2_le52 hm h
  have hp := Nat.two_pow_pos k
  have hb := rung_bounds hm h
  unfold Format.nearest
  rw [if_neg (Nat.mul_ne_zero hm (by omega)), log2_shift hm, least_double, binade_double, inf_double]
  have hfb : ((Ieee.double.fractionBits : Nat) : Int) = 52 := rfl
  have elast : max (-(k : Int) + ((m.log2 + k : Nat) : Int) - (Ieee.double.fractionBits : Int)) (-1074) = -((upOf m : Nat) : Int) := by
    rw [hfb]; unfold upOf; omega
  simp only [elast]
  have ecut : Toward.even.cut neg ((m * 2 ^ k) <<< (-(k : Int) - -((upOf m : Nat) : Int)).toNat) (-((upOf m : Nat) : Int) - -(k : Int)).toNat = m * 2 ^ upOf m := by
    by_cases hk : k ≤ upOf m
    · rw [show (-(k : Int) - -((upOf m : Nat) : Int)).toNat = upOf m - k by omega, show (-((upOf m : Nat) : Int) - -(k : Int)).toNat = 0 by omega, Nat.shiftLeft_eq, Nat.mul_assoc, ← Nat.pow_add, show k + (upOf m - k) = upOf m by omega]
      have := cut_exact neg (m * 2 ^ upOf m) 0
      rwa [Nat.pow_zero, Nat.mul_one] at this
    · rw [show (-(k : Int) - -((upOf m : Nat) : Int)).toNat = 0 by omega, show (-((upOf m : Nat) : Int) - -(k : Int)).toNat = k - upOf m by omega, Nat.shiftLeft_eq, Nat.pow_zero, Nat.mul_one]
      have := cut_exact neg (m * 2 ^ upOf m) (k - upOf m)
      rwa [Nat.mul_assoc, ← Nat.pow_add, show upOf m + (k - upOf m) = k by omega] at this
  rw [ecut, show (-((upOf m : Nat) : Int) - -1074).toNat = m.log2 + 1022 by unfold upOf; omega]
  congr 1
  exact Nat.min_eq_left (by have := hb.2; unfold rungOf at this; omega)
theorem read_word (neg : Bool) {m : Nat} (hm : m ≠ 0) (h : m < 9007199254740992) : Ieee.double.read (Ieee.double.word neg (rungOf m)) = .number neg (m * 2 ^ upOf m) (-((upOf m : Nat) : Int)) := by
  have hl := log2_le52 hm h
  have hb := rung_bounds hm h
  have hu := up_bounds hm h
  have ed : rungOf m / 4503599627370496 = m.log2 + 1023 := by unfold rungOf; omega
  have em : rungOf m % 4503599627370496 = m * 2 ^ upOf m - 4503599627370496 := by unfold rungOf; omega
  unfold Format.read
  rw [sign_double, binade_double, inf_double, least_double]
  have e1 : Ieee.double.word neg (rungOf m) % 9223372036854775808 = rungOf m := by
    unfold Format.word; rw [sign_double]; cases neg <;> simp <;> omega
  have e2 : (Ieee.double.word neg (rungOf m) / 9223372036854775808 % 2 == 1) = neg := by
    unfold Format.word; rw [sign_double]
    cases neg with
    | false => rw [if_neg (by simp)]; rw [show rungOf m / 9223372036854775808 = 0 by omega]; rfl
    | true => rw [if_pos rfl]; rw [show (9223372036854775808 + rungOf m) / 9223372036854775808 = 1 by omega]; rfl
  simp only [e1, e2]
  rw [if_neg (by omega), if_pos (by omega), ed, em]
  have a1 : 4503599627370496 + (m * 2 ^ upOf m - 4503599627370496) = m * 2 ^ upOf m := by omega
  have a2 : (-1074 : Int) + ((m.log2 + 1023 - 1 : Nat) : Int) = -((upOf m : Nat) : Int) := by unfold upOf; omega
  rw [a1, a2]
/-- A whole number as a float. -/
def fl (n : Int) : Nat := floatOfInt .f64 n
theorem fl_def (n : Int) : fl n = Ieee.double.nearest (decide (n < 0)) n.natAbs 0 := rfl
theorem fl_zero : fl 0 = 0 := by decide
theorem fl_word {n : Int} (hn : n ≠ 0) (h : n.natAbs < 9007199254740992) : fl n = Ieee.double.word (decide (n < 0)) (rungOf n.natAbs) := by
  have := nearest_whole (decide (n < 0)) (m := n.natAbs) (by omega) h 0
  rw [Nat.pow_zero, Nat.mul_one] at this
  rw [fl_def]; exact this
/-- What a whole number's float stands for. -/
structure Stands (x : Nat) (n : Int) (mag : Nat) (place : Int) : Prop where
  read : Ieee.double.read x = .number (decide (n < 0)) mag place
  low : place ≤ 0
  all : ∀ base, base ≤ place → signed (decide (n < 0)) mag (place - base).toNat = n * 2 ^ (-base).toNat
theorem fl_stands {n : Int} (h : n.natAbs < 9007199254740992) : ∃ mag place, Stands (fl n) n mag place := by
  by_cases hn : n = 0
  · subst hn
    refine ⟨0, -1074, by rw [fl_zero]; rfl, by omega, fun base _ => ?_⟩
    unfold signed; simp
  · refine ⟨n.natAbs * 2 ^ upOf n.natAbs, -((upOf n.natAbs : Nat) : Int), by rw [fl_word hn h]; exact read_word _ (by omega) h, by omega, fun base hb => ?_⟩
    have e : (n.natAbs * 2 ^ upOf n.natAbs) <<< (-((upOf n.natAbs : Nat) : Int) - base).toNat = n.natAbs * 2 ^ (-base).toNat := by
      rw [Nat.shiftLeft_eq, Nat.mul_assoc, ← Nat.pow_add]
      congr 2
      omega
    unfold signed
    rw [e]
    by_cases hneg : n < 0
    · rw [decide_eq_true hneg, if_pos rfl]
      have : ((n.natAbs : Nat) : Int) = -n := by omega
      rw [Int.natCast_mul, this, Int.natCast_pow]
      simp [Int.neg_mul]
    · rw [decide_eq_false hneg, if_neg (by simp)]
      have : ((n.natAbs : Nat) : Int) = n := by omega
      rw [Int.natCast_mul, this, Int.natCast_pow]
      rfl
theorem fl_num {n : Int} (h : n.natAbs < 9007199254740992) : isNum (fl n) := by
  obtain ⟨mag, place, s⟩ := fl_stands h
  exact ⟨_, _, _, s.read⟩
theorem pow_pos' (q : Nat) : (0 : Int) < 2 ^ q := Int.pow_pos (by decide)
theorem fl_order {a b : Int} (ha : a.natAbs < 9007199254740992) (hb : b.natAbs < 9007199254740992) : FloatKind.f64.format.order (fl a) (fl b) = some (compare a b) := by
  obtain ⟨m, i, sa⟩ := fl_stands ha
  obtain ⟨k, j, sb⟩ := fl_stands hb
  show (Ieee.double.read (fl a)).order (Ieee.double.read (fl b)) = _
  rw [sa.read, sb.read]
  show some (compare (signed _ m (i - min i j).toNat) (signed _ k (j - min i j).toNat)) = _
  rw [sa.all _ (by omega), sb.all _ (by omega)]
  have hp := pow_pos' (-(min i j)).toNat
  congr 1
  rcases Int.lt_trichotomy a b with h | h | h
  · rw [Int.compare_eq_lt.2 h, Int.compare_eq_lt.2 (Int.mul_lt_mul_of_pos_right h hp)]
  · subst h; rw [Int.compare_eq_eq.2 rfl, Int.compare_eq_eq.2 rfl]
  · rw [Int.compare_eq_gt.2 h, Int.compare_eq_gt.2 (Int.mul_lt_mul_of_pos_right h hp)]
theorem fl_add {a b : Int} (ha : a.natAbs < 9007199254740992) (hb : b.natAbs < 9007199254740992) (hab : (a + b).natAbs < 9007199254740992) : FloatKind.f64.format.add (fl a) (fl b) = some (fl (a + b)) := by
  obtain ⟨m, i, sa⟩ := fl_stands ha
  obtain ⟨k, j, sb⟩ := fl_stands hb
  show ((Ieee.double.read (fl a)).sum (Ieee.double.read (fl b))).map Ieee.double.write = _
  rw [sa.read, sb.read]
  show Option.map _ (some (Datum.number (if signed _ m (i - min i j).toNat + signed _ k (j - min i j).toNat = 0 then _ else _) _ _)) = _
  rw [sa.all _ (by omega), sb.all _ (by omega), ← Int.add_mul]
  have hp := pow_pos' (-(min i j)).toNat
  have hl : min i j ≤ 0 := by have := sa.low; omega
  obtain ⟨q, hq⟩ : ∃ q, q = (-(min i j)).toNat := ⟨_, rfl⟩
  have hmin : min i j = -(q : Int) := by omega
  rw [hmin, show (- -(q : Int)).toNat = q by omega]
  by_cases h0 : a + b = 0
  · rw [h0, Int.zero_mul, if_pos rfl]
    have : (decide (a < 0) && decide (b < 0)) = false := by
      by_cases h1 : a < 0
      · rw [decide_eq_false (p := b < 0) (by omega), Bool.and_false]
      · rw [decide_eq_false h1, Bool.false_and]
    rw [this, fl_zero]
    rfl
  · have hne : (a + b) * 2 ^ q ≠ 0 := Int.mul_ne_zero h0 (by have := pow_pos' q; omega)
    rw [if_neg hne]
    have en : decide ((a + b) * 2 ^ q < 0) = decide (a + b < 0) := by
      by_cases h1 : a + b < 0
      · rw [decide_eq_true h1, decide_eq_true (Int.mul_neg_of_neg_of_pos h1 (pow_pos' q))]
      · rw [decide_eq_false h1, decide_eq_false]
        have := Int.mul_nonneg (show 0 ≤ a + b by omega) (Int.le_of_lt (pow_pos' q))
        omega
    have ea : ((a + b) * 2 ^ q).natAbs = (a + b).natAbs * 2 ^ q := by
      rw [Int.natAbs_mul, Int.natAbs_pow]; rfl
    show some (Ieee.double.nearest (decide _) _ _) = _
    rw [en, ea, nearest_whole _ (by omega) hab q, fl_word h0 hab]
theorem fl_toInt {n : Int} (h : n.natAbs < 9007199254740992) : (FloatKind.f64.decode (fl n)).toInt .zero = some n := by
  show (Ieee.double.read (fl n)).toInt .zero = some n
  by_cases hn : n = 0
  · subst hn; rw [fl_zero]; rfl
  · rw [fl_word hn h, read_word _ (by omega) h]
    show some (signed (decide (n < 0)) (Toward.zero.cut _ ((n.natAbs * 2 ^ upOf n.natAbs) <<< (-((upOf n.natAbs : Nat) : Int)).toNat) (- -((upOf n.natAbs : Nat) : Int)).toNat) 0) = _
    rw [show (-((upOf n.natAbs : Nat) : Int)).toNat = 0 by omega, show (- -((upOf n.natAbs : Nat) : Int)).toNat = upOf n.natAbs by omega, Nat.shiftLeft_zero, cut_zero]
    congr 1
    unfold signed
    rw [Nat.shiftLeft_zero]
    by_cases hneg : n < 0
    · rw [decide_eq_true hneg, if_pos rfl]; omega
    · rw [decide_eq_false hneg, if_neg (by simp)]; omega
theorem xor_low {r : Nat} (h : r < 9223372036854775808) : r ^^^ 9223372036854775808 = 9223372036854775808 + r := by
  have e : (9223372036854775808 : Nat) = 2 ^ 63 := by decide
  rw [e] at h ⊢
  have e2 : 2 ^ 63 + r = 2 ^ 63 ||| r := by
    have := Nat.two_pow_add_eq_or_of_lt h 1
    rwa [Nat.mul_one] at this
  rw [e2]
  apply Nat.eq_of_testBit_eq
  intro i
  rw [Nat.testBit_xor, Nat.testBit_or, Nat.testBit_two_pow]
  by_cases hi : 63 = i
  · subst hi
    rw [Nat.testBit_lt_two_pow h]; rfl
  · rw [decide_eq_false hi, Bool.xor_false, Bool.false_or]
theorem xor_high {r : Nat} (h : r < 9223372036854775808) : (9223372036854775808 + r) ^^^ 9223372036854775808 = r := by
  rw [← xor_low h, Nat.xor_assoc, Nat.xor_self, Nat.xor_zero]
theorem fl_neg {n : Int} (hn : n ≠ 0) (h : n.natAbs < 9007199254740992) : fl n ^^^ 9223372036854775808 = fl (-n) := by
  have hb := rung_bounds (m := n.natAbs) (by omega) h
  rw [fl_word hn h, fl_word (n := -n) (by omega) (by omega), show (-n).natAbs = n.natAbs by omega]
  unfold Format.word
  rw [sign_double]
  by_cases h0 : n < 0
  · rw [decide_eq_true h0, decide_eq_false (show ¬ -n < 0 by omega), if_pos rfl, if_neg (by simp)]
    exact xor_high (by omega)
  · rw [decide_eq_false h0, decide_eq_true (show -n < 0 by omega), if_neg (by simp), if_pos rfl]
    exact xor_low (by omega)
theorem fl_lt (n : Int) (h : n.natAbs < 9007199254740992) : fl n < 18446744073709551616 := by
  by_cases hn : n = 0
  · subst hn; rw [fl_zero]; decide
  · have hb := rung_bounds (m := n.natAbs) (by omega) h
    rw [fl_word hn h]
    unfold Format.word
    rw [sign_double]
    split <;> omega
theorem fl_not_negZ {n : Int} (h : n.natAbs < 9007199254740992) : fl n ≠ negZ := by
  by_cases hn : n = 0
  · subst hn; rw [fl_zero]; decide
  · have hb := rung_bounds (m := n.natAbs) (by omega) h
    rw [fl_word hn h]
    unfold Format.word negZ
    rw [sign_double]
    split <;> omega
end Go.Proofs.YtaeophaecclnbaaGreatDoor
namespace Go.Proofs.YtaeophaecclnbaaGreatDoor
open Go.RowKit

theorem num_of_fin {x : Nat} (h : fin x = true) : isNum x := by
  unfold fin FloatKind.decode at h
  show ∃ s m e, Ieee.double.read x = .number s m e
  have h : (!(Ieee.double.read x).isNaN && !(Ieee.double.read x).isInfinity) = true := h
  cases hr : Ieee.double.read x with
  | number s m e => exact ⟨s, m, e, rfl⟩
  | infinity s => rw [hr] at h; cases h
  | nan s f => rw [hr] at h; cases h
theorem fin_of_num {x : Nat} (h : isNum x) : fin x = true := by
  obtain ⟨s, m, e, h⟩ := h
  show (!(Ieee.double.read x).isNaN && !(Ieee.double.read x).isInfinity) = true
  rw [h]; rfl
theorem sub_none {x : Nat} (h : fin x = false) : FloatKind.f64.format.sub x x = none := by
  have h : (!(Ieee.double.read x).isNaN && !(Ieee.double.read x).isInfinity) = false := h
  show ((Ieee.double.read x).sum (Ieee.double.read x).opposite).map Ieee.double.write = none
  cases hr : Ieee.double.read x with
  | number s m e => rw [hr] at h; cases h
  | infinity s => cases s <;> rfl
  | nan s f => rfl
/-- What is no number is not nought. -/
theorem nan_read (a b : Nat) (h2 : b < 4503599627370495) : ∃ s, Ieee.double.read (a * 9223372036854775808 + 9218868437227405312 + 1 + b) = .nan s (1 + b) := by
  have hs : Ieee.double.signWeight = 9223372036854775808 := by decide
  unfold Ieee.Format.read
  rw [hs, binade_double, inf_double]
  have hm : (a * 9223372036854775808 + 9218868437227405312 + 1 + b) % 9223372036854775808 = 9218868437227405313 + b := by omega
  rw [hm]
  generalize ((a * 9223372036854775808 + 9218868437227405312 + 1 + b) / 9223372036854775808 % 2 == 1) = q
  refine ⟨q, ?_⟩
  simp only
  rw [if_neg (by omega), if_neg (by omega), if_neg (by omega), show 9218868437227405313 + b - 9218868437227405312 = 1 + b by omega]
theorem order_nan {x : Nat} {s : Bool} {f : Nat} (h : Ieee.double.read x = .nan s f) (y : Nat) : FloatKind.f64.format.order x y = none := by
  show (Ieee.double.read x).order (Ieee.double.read y) = none
  rw [h]
  cases Ieee.double.read y <;> rfl
theorem nan_bits (t : Nat) : FloatKind.f64.format.order ((t % 2) * 2 ^ 63 + 0x7ff0000000000000 + 1 + (t / 2) % (2 ^ 52 - 1)) 0 = none := by
  have h2 : (t / 2) % (2 ^ 52 - 1) < 4503599627370495 := Nat.mod_lt _ (by decide)
  obtain ⟨s, h⟩ := nan_read (t % 2) _ h2
  exact order_nan h 0
theorem sub_nan {x : Nat} (h : fin x = false) (w : World) : ∃ b, (binOp .sub 113 (.float .f64 x) (.float .f64 x)).run Tryz.prog w = .ok (.float .f64 b) w.drew ∧ FloatKind.f64.format.order b 0 = none := by
  refine ⟨_, ?_, nan_bits (w.tape w.drawn (.nanBits .f64 x x))⟩
  have hs := sub_none h
  simp only [binOp, Op.floatArith, hs]
  simp [choose, Sem.run, Question.forced, Question.cut, Result.andThen]
theorem read_zero_mag {x : Nat} (hx : x < 18446744073709551616) {s : Bool} {e : Int} (h : Ieee.double.read x = .number s 0 e) : x = 0 ∨ x = negZ := by
  unfold Ieee.Format.read at h
  have hs : Ieee.double.signWeight = 9223372036854775808 := by decide
  rw [hs, binade_double, inf_double] at h
  simp only at h
  split at h
  · injection h with h1 h2 h3
    unfold negZ
    omega
  · split at h
    · injection h with h1 h2 h3
      omega
    · split at h <;> cases h
theorem order_zero_any {x : Nat} (hx : x < 18446744073709551616) (h : isNum x) : (FloatKind.f64.format.order x 0 == some .eq) = (decide (x = 0) || decide (x = negZ)) := by
  obtain ⟨s, m, e, h⟩ := h
  by_cases hm : m = 0
  · subst hm
    rcases read_zero_mag hx h with rfl | rfl
    · decide
    · decide
  · have h0 : ¬ x = 0 := fun c => by
      subst c
      have : Ieee.double.read 0 = .number false 0 Ieee.double.leastPlace := rfl
      rw [this] at h
      injection h with _ h2 _
      exact hm h2.symm
    have h1 : ¬ x = negZ := fun c => by
      subst c
      have : Ieee.double.read negZ = .number true 0 Ieee.double.leastPlace := by decide +kernel
      rw [this] at h
      injection h with _ h2 _
      exact hm h2.symm
    rw [decide_eq_false h0, decide_eq_false h1]
    show ((Ieee.double.read x).order (Ieee.double.read 0) == some .eq) = false
    rw [h]
    show (some (compare (Ieee.signed s m (e - min e Ieee.double.leastPlace).toNat) (Ieee.signed false 0 (Ieee.double.leastPlace - min e Ieee.double.leastPlace).toNat)) == some .eq) = false
    have hz : Ieee.signed false 0 (Ieee.double.leastPlace - min e Ieee.double.leastPlace).toNat = 0 := by unfold Ieee.signed; simp
    have hne : Ieee.signed s m (e - min e Ieee.double.leastPlace).toNat ≠ 0 := by
      unfold Ieee.signed
      rw [Nat.shiftLeft_eq]
      have := Nat.two_pow_pos (e - min e Ieee.double.leastPlace).toNat
      have hp : m * 2 ^ (e - min e Ieee.double.leastPlace).toNat ≠ 0 := Nat.mul_ne_zero hm (by omega)
      split <;> omega
    rw [hz]
    generalize Ieee.signed s m (e - min e Ieee.double.leastPlace).toNat = z at hne
    rcases Int.lt_trichotomy z 0 with h2 | h2 | h2
    · rw [Int.compare_eq_lt.2 h2]; rfl
    · exact absurd h2 hne
    · rw [Int.compare_eq_gt.2 h2]; rfl
theorem finite_is {x : Nat} (h : isNum x) (w : World) : Calls Tryz.prog 191 #[.float .f64 x] w (RetB (.bool true) w) := by
  have hs : ∀ w, (binOp .sub 113 (.float .f64 x) (.float .f64 x)).run Tryz.prog w = .ok (.float .f64 0) w := fun w => run_float_arith w .sub _ .f64 x x 0 (sub_self h)
  have ho := order_self isNum_zero
  go_enter Tryz.func191, Tryz.ntmps191
  go_wp2
  go_ret
  exact ⟨rfl, Below.refl _ _⟩
theorem finite_no {x : Nat} (h : fin x = false) (w : World) : Calls Tryz.prog 191 #[.float .f64 x] w (RetB (.bool false) w) := by
  obtain ⟨b, hs, ho⟩ := sub_nan h w
  have hb : (FloatKind.f64.format.order b 0 == some .eq) = false := by rw [ho]; rfl
  clear h ho
  go_enter Tryz.func191, Tryz.ntmps191
  go_wp2
  go_ret
  exact ⟨rfl, (Below.refl _ _).drew⟩
theorem finite_all (x : Nat) (w : World) : Calls Tryz.prog 191 #[.float .f64 x] w (RetB (.bool (fin x)) w) := by
  cases h : fin x with
  | true => exact finite_is (num_of_fin h) w
  | false => exact finite_no h w
theorem ends_all (x y : Nat) (w : World) : Calls Tryz.prog 151 #[.complex .f64 x y] w (RetB (.bool (fin x && fin y)) w) := by
  cases hx : fin x with
  | false =>
    have H := Lib.hid (fun w => finite_no hx w)
    go_enter Tryz.func151, Tryz.ntmps151
    go_wp2_with (go_at_call 191; refine (H.out _).mono ?_; rintro e w1 ⟨rfl, hb1⟩)
    go_ret
    exact ⟨rfl, hb1⟩
  | true =>
    have H := Lib.hid (fun w => finite_is (num_of_fin hx) w)
    have K := Lib.hid (fun w => finite_all y w)
    generalize fin y = q at *
    go_enter Tryz.func151, Tryz.ntmps151
    go_wp2_with fail
    refine (H.out _).mono ?_
    rintro e w1 ⟨rfl, hb1⟩
    go_wp2_with fail
    refine (K.out _).mono ?_
    rintro e w2 ⟨rfl, hb2⟩
    cases q <;>
    · go_wp2_with fail
      go_ret
      exact ⟨rfl, bthen hb1 hb2⟩
/-- A float's bits. -/
theorem bits_any (x : Nat) (w : World) : (callFunc 150 #[.float .f64 x]).run Tryz.prog w = .ok (.value (.int .u64 (x : Int))) w := by
  rw [run_callFunc_extern (e := Extern.MathFloatBits.float64bits) Tryz.func150 (by kernel_rfl) (by kernel_rfl) (by kernel_rfl) (by kernel_rfl)]
  rfl
theorem sign_zero (w : World) : Calls Tryz.prog 152 #[.float .f64 0] w (Ret (.bool false) w) := by
  have hb := bits_any 0
  go_enter Tryz.func152, Tryz.ntmps152
  go_wp2
  go_ret
  exact ⟨rfl, rfl⟩
theorem sign_neg (w : World) : Calls Tryz.prog 152 #[.float .f64 negZ] w (Ret (.bool true) w) := by
  have hb := bits_any negZ
  unfold negZ at *
  go_enter Tryz.func152, Tryz.ntmps152
  go_wp2
  go_ret
  exact ⟨ret_bool (decide_eq_true (by unfold wrap64; decide)), rfl⟩
theorem fine_no {x y : Nat} (h : (fin x && fin y) = false) (w : World) : Calls Tryz.prog 115 #[.complex .f64 x y] w (RetB (.bool false) w) := by
  have H := Lib.hid (fun w => ends_all x y w)
  rw [h] at H
  clear h
  go_enter Tryz.func115, Tryz.ntmps115
  go_wp2_with (go_at_call 151; refine (H.out _).mono ?_; rintro e w1 ⟨rfl, hb1⟩)
  go_ret
  exact ⟨rfl, hb1⟩
set_option maxHeartbeats 1000000 in
theorem fine_yes {x y : Nat} (hx : x < 18446744073709551616) (hy : y < 18446744073709551616) (h : (fin x && fin y) = true) (w : World) : Calls Tryz.prog 115 #[.complex .f64 x y] w (RetB (.bool (!decide (x = negZ) && !decide (y = negZ))) w) := by
  have H := Lib.hid (fun w => ends_all x y w)
  rw [h] at H
  rw [Bool.and_eq_true] at h
  have ox := order_zero_any hx (num_of_fin h.1)
  have oy := order_zero_any hy (num_of_fin h.2)
  clear h hx hy
  by_cases xn : x = negZ
  · subst xn
    rw [show (decide (negZ = 0) || decide (negZ = negZ)) = true by decide] at ox
    rw [show (!decide (negZ = negZ) && !decide (y = negZ)) = false by simp]
    clear oy
    have S := Lib.hid sign_neg
    generalize negZ = z at *
    go_enter Tryz.func115, Tryz.ntmps115
    go_wp2_with (first | (go_at_call 151; refine (H.out _).mono ?_; rintro e w1 ⟨rfl, hb1⟩) | (go_at_call 152; refine (S.out _).mono ?_; rintro e w2 ⟨rfl, rfl⟩))
    go_ret
    exact ⟨rfl, hb1⟩
  · rw [decide_eq_false xn] at ox ⊢
    rw [Bool.or_false] at ox
    rw [Bool.not_false, Bool.true_and]
    by_cases yn : y = negZ
    · subst yn
      rw [show (decide (negZ = 0) || decide (negZ = negZ)) = true by decide] at oy
      rw [show (!decide (negZ = negZ)) = false by simp]
      have S := Lib.hid sign_neg
      have S0 := Lib.hid sign_zero
      clear xn
      by_cases x0 : x = 0
      · subst x0
        rw [show decide ((0 : Nat) = 0) = true by decide] at ox
        generalize negZ = z at *
        go_enter Tryz.func115, Tryz.ntmps115
        go_wp2_with fail
        refine (H.out _).mono ?_
        rintro e w1 ⟨rfl, hb1⟩
        go_wp2_with fail
        refine (S0.out _).mono ?_
        rintro e w2 ⟨rfl, rfl⟩
        go_wp2_with fail
        refine (S.out _).mono ?_
        rintro e w2 ⟨rfl, rfl⟩
        go_wp2_with fail
        go_ret
        exact ⟨rfl, hb1⟩
      · rw [decide_eq_false x0] at ox
        clear x0
        generalize negZ = z at *
        go_enter Tryz.func115, Tryz.ntmps115
        go_wp2_with (first | (go_at_call 151; refine (H.out _).mono ?_; rintro e w1 ⟨rfl, hb1⟩) | (go_at_call 152; refine (S.out _).mono ?_; rintro e w2 ⟨rfl, rfl⟩))
        go_ret
        exact ⟨rfl, hb1⟩
    · rw [decide_eq_false yn] at oy ⊢
      rw [Bool.or_false] at oy
      rw [Bool.not_false]
      have S0 := Lib.hid sign_zero
      clear xn yn
      by_cases x0 : x = 0
      · subst x0
        rw [show decide ((0 : Nat) = 0) = true by decide] at ox
        by_cases y0 : y = 0
        · subst y0
          go_enter Tryz.func115, Tryz.ntmps115
          go_wp2_with (first | (go_at_call 151; refine (H.out _).mono ?_; rintro e w1 ⟨rfl, hb1⟩) | (go_at_call 152; refine (S0.out _).mono ?_; rintro e w2 ⟨rfl, rfl⟩))
          go_ret
          exact ⟨rfl, hb1⟩
        · rw [decide_eq_false y0] at oy
          clear y0
          go_enter Tryz.func115, Tryz.ntmps115
          go_wp2_with (first | (go_at_call 151; refine (H.out _).mono ?_; rintro e w1 ⟨rfl, hb1⟩) | (go_at_call 152; refine (S0.out _).mono ?_; rintro e w2 ⟨rfl, rfl⟩))
          go_ret
          exact ⟨rfl, hb1⟩
      · rw [decide_eq_false x0] at ox
        clear x0
        by_cases y0 : y = 0
        · subst y0
          rw [show decide ((0 : Nat) = 0) = true by decide] at oy
          go_enter Tryz.func115, Tryz.ntmps115
          go_wp2_with (first | (go_at_call 151; refine (H.out _).mono ?_; rintro e w1 ⟨rfl, hb1⟩) | (go_at_call 152; refine (S0.out _).mono ?_; rintro e w2 ⟨rfl, rfl⟩))
          go_ret
          exact ⟨rfl, hb1⟩
        · rw [decide_eq_false y0] at oy
          clear y0
          go_enter Tryz.func115, Tryz.ntmps115
          go_wp2_with (go_at_call 151; refine (H.out _).mono ?_; rintro e w1 ⟨rfl, hb1⟩)
          go_ret
          exact ⟨rfl, hb1⟩
theorem fine_all {x y : Nat} (hx : x < 18446744073709551616) (hy : y < 18446744073709551616) (w : World) : Calls Tryz.prog 115 #[.complex .f64 x y] w (RetB (.bool (fineB x y)) w) := by
  unfold fineB
  cases h : fin x && fin y with
  | false => exact fine_no h w
  | true => exact fine_yes hx hy h w
end Go.Proofs.YtaeophaecclnbaaGreatDoor
namespace Go.Proofs.YtaeophaecclnbaaGreatDoor
open Go.RowKit

/-- The reader has gone on; what was there else is as it was. -/
def GoB (rb : Nat) (q : Nat) (w w' : World) : Prop := w'.os = w.os ∧ w'.tape = w.tape ∧ w'.output = w.output ∧ w.heap.size ≤ w'.heap.size ∧ (∀ k, k < w.heap.size → k ≠ rb → w'.heap[k]? = w.heap[k]?) ∧ w'.cell? ⟨rb, 0, none⟩ = w.cell? ⟨rb, 0, none⟩ ∧ w'.cell? ⟨rb, 1, none⟩ = some (.int .i64 q) ∧ w'.frozen? ⟨rb, 1, none⟩ = w.frozen? ⟨rb, 1, none⟩
theorem Goes.b {rb q : Nat} {w w' : World} (h : Goes rb q w w') : GoB rb q w w' := ⟨h.1, h.2.1, h.2.2.1, by rw [h.2.2.2.1]; exact Nat.le_refl _, fun k _ hk => h.2.2.2.2.1 k hk, h.2.2.2.2.2.1, h.2.2.2.2.2.2.1, h.2.2.2.2.2.2.2⟩
theorem GoB.then {rb p q : Nat} {w w1 w2 : World} (h : GoB rb p w w1) (k : GoB rb q w1 w2) : GoB rb q w w2 :=
  ⟨k.1.trans h.1, k.2.1.trans h.2.1, k.2.2.1.trans h.2.2.1, Nat.le_trans h.2.2.2.1 k.2.2.2.1, fun j hl hj => (k.2.2.2.2.1 j (Nat.lt_of_lt_of_le hl h.2.2.2.1) hj).trans (h.2.2.2.2.1 j hl hj), k.2.2.2.2.2.1.trans h.2.2.2.2.2.1, k.2.2.2.2.2.2.1, k.2.2.2.2.2.2.2.trans h.2.2.2.2.2.2.2⟩
theorem GoB.below {rb q : Nat} {w w1 w2 : World} (h : GoB rb q w w1) (hr : rb < w.heap.size) (k : Below w1.heap.size w1 w2) : GoB rb q w w2 := by
  have hl := Nat.lt_of_lt_of_le hr h.2.2.2.1
  exact ⟨k.os.trans h.1, k.tape.trans h.2.1, k.output.trans h.2.2.1, Nat.le_trans h.2.2.2.1 k.size, fun j hj hk => (k.block j (Nat.lt_of_lt_of_le hj h.2.2.2.1)).trans (h.2.2.2.2.1 j hj hk),
    (k.cell (p := ⟨rb, 0, none⟩) hl).trans h.2.2.2.2.2.1, (k.cell (p := ⟨rb, 1, none⟩) hl).trans h.2.2.2.2.2.2.1, (k.frozen (p := ⟨rb, 1, none⟩) hl).trans h.2.2.2.2.2.2.2⟩
theorem GoB.rd {w w' : World} {rb : Nat} {A : Option Addr} {n cc : Nat} {l : List UInt8} {p q : Nat} (g : GoB rb q w w') (h : RD w rb A n cc l p) (hq : q ≤ n) : RD w' rb A n cc l q where
  c0 := g.2.2.2.2.2.1.trans h.c0
  c1 := g.2.2.2.2.2.2.1
  fz := g.2.2.2.2.2.2.2.trans h.fz
  len := h.len
  le := hq
  bytes := fun hn => by
    obtain ⟨b, off, e, hlt, hc⟩ := h.bytes hn
    exact ⟨b, off, e, Nat.lt_of_lt_of_le hlt g.2.2.2.1, fun j hj => (World.cell?_of_block (a := ⟨b, off + j, none⟩) (g.2.2.2.2.1 b hlt (h.ne hn b off e))).trans (hc j hj)⟩
  ne := h.ne
  lt := Nat.lt_of_lt_of_le h.lt g.2.2.2.1
  cap := h.cap
  capb := h.capb
  nil := h.nil
theorem shl_or {H c : Nat} (h : H < 72057594037927936) (hc : c < 256) : bits .or .u64 (IntKind.u64.wrap ((H : Int) * 256)) (c : Int) = ((H * 256 + c : Nat) : Int) := by
  have e : (2 : Nat) ^ 64 = 18446744073709551616 := by decide
  rw [show ((H : Int) * 256) = ((H * 256 : Nat) : Int) by simp, wrap_u64_nat _ (by omega)]
  rw [bits_or_u64_nat _ _ (by omega) (by omega)]
  have := Nat.shiftLeft_add_eq_or_of_lt (show c < 2 ^ 8 by omega) H
  rw [Nat.shiftLeft_eq, show (2 : Nat) ^ 8 = 256 by decide] at this
  rw [← this]
/-- What reading a complex number comes to. -/
def CxPost (l : List UInt8) (p : Nat) (rb : Nat) (w : World) (e : Ending) (w' : World) : Prop :=
  (l.length < p + 16 ∧ e = .panicked [{ v := faultV (l.length : Int) 4, recovered := false }] ∧ ∃ q, GoB rb q w w') ∨
  (¬ l.length < p + 16 ∧ fineB (beN l p 8) (beN l (p + 8) 8) = false ∧ e = .panicked [{ v := faultV (p : Int) 20, recovered := false }] ∧ ∃ q, GoB rb q w w') ∨
  (¬ l.length < p + 16 ∧ fineB (beN l p 8) (beN l (p + 8) 8) = true ∧ e = .returned (.complex .f64 (beN l p 8) (beN l (p + 8) 8)) ∧ GoB rb (p + 16) w w')
set_option maxRecDepth 100000 in
set_option maxHeartbeats 4000000 in
theorem num_any {w : World} {rb : Nat} {A : Option Addr} {n cc : Nat} {l : List UInt8} {p : Nat} (h : RD w rb A n cc l p) (hn : (n : Int) ≤ 140737488351232) :
    Calls Tryz.prog 69 #[.pointer (some ⟨rb, 0, none⟩)] w (CxPost l p rb w) := by
  have H := Lib.hid h
  have HL := Lib.hid h.len
  have c1 := h.c1
  have hle := h.le
  clear h
  go_enter Tryz.func69, Tryz.ntmps69
  go_wp2_with fail
  by_cases hs : n - p < 16
  · refine (bytes_no H.out hn 16 hs).mono ?_
    rintro e w2 ⟨rfl, g⟩
    refine ⟨rfl, .inl ⟨by have := HL.out; omega, by rw [HL.out], _, g.b⟩⟩
  · refine (bytes_some H.out hn 16 (by omega) (by omega)).mono ?_
    rintro e w2 ⟨rfl, g⟩
    have G := Lib.hid g
    clear g
    have hlen : ((l.drop p).take 16).length = 16 := by rw [List.length_take, List.length_drop]; have := HL.out; omega
    have HX := Lib.hid (show ∀ (i : Nat) (w : World), i < 16 → (Instr.index 9 (.string (strB ((l.drop p).take 16))) (.int .i64 (i : Int))).run Tryz.prog w = .ok (.int .u8 ((byt l (p + i) : Nat) : Int)) w from fun i w hi => by
      have hz : (strB ((l.drop p).take 16)).size = 16 := hlen
      have hl : p + i < l.length := by have := HL.out; omega
      have hb : ((strB ((l.drop p).take 16))[i]'(by omega)).toNat = byt l (p + i) := by
        show (((l.drop p).take 16)[i]'(by omega)).toNat = _
        unfold byt
        rw [List.getElem_take, List.getElem_drop, List.getD, List.getElem?_eq_getElem hl]
        rfl
      rw [run_index_string w 9 _ .i64 i Tryz.underlying9, dif_pos ⟨by omega, by omega⟩]
      have hn : ((i : Int)).toNat = i := by omega
      simp only [hn, hb])
    clear hlen
    generalize strB ((l.drop p).take 16) = s at *
    go_wp2_with fail
    go_loopw [14] (fun o wr => ∃ (i : Nat), o = .int .i64 i ∧ i ≤ 16 ∧ wr.cell? ⟨w2.heap.size, 0, none⟩ = some (.int .u64 ((beN l p (min i 8) : Nat) : Int)) ∧ wr.cell? ⟨w2.heap.size, 1, none⟩ = some (.int .u64 ((beN l (p + 8) (i - 8) : Nat) : Int)) ∧ wr.frozen? ⟨w2.heap.size, 0, none⟩ = false ∧ wr.frozen? ⟨w2.heap.size, 1, none⟩ = false ∧ Below w2.heap.size w2 wr ∧ w2.heap.size < wr.heap.size) (fun o _ => 16 - (intOf o).toNat)
    case atStart => exact ⟨0, rfl, by omega, by simp; rfl, by simp; rfl, by simp, by simp, (Below.refl _ _).alloc (Nat.le_refl _) _, by simp⟩
    case round =>
      obtain ⟨i, rfl, hi, h0, h1, f0, f1, hB, hsz⟩ := hrel
      have HB := Lib.hid hB
      clear hB
      by_cases hlt : i < 16
      · have hx := fun w => HX.out i w hlt
        have hc := byt_lt l (p + i)
        by_cases h8 : i < 8
        · have hq : (i : Int) / 8 = 0 := by omega
          rw [show min i 8 = i by omega] at h0
          have hH := beN_lt l p i
          have hp : 256 ^ i ≤ 256 ^ 7 := Nat.pow_le_pow_right (by omega) (by omega)
          rw [show (256 : Nat) ^ 7 = 72057594037927936 by decide] at hp
          have ST := Lib.hid (shl_or (H := beN l p i) (c := byt l (p + i)) (by omega) hc)
          have E := Lib.hid (show beN l p (min (i + 1) 8) = beN l p i * 256 + byt l (p + i) by rw [show min (i + 1) 8 = i + 1 by omega]; rfl)
          have E1 := Lib.hid (show i + 1 - 8 = i - 8 by omega)
          clear hH hp h8
          go_wp2_with fail
          go_region
          go_wp2_with fail
          go_roundw
          case rel =>
            refine ⟨i + 1, by go_num, by omega, ?_, ?_, ?_, ?_, ?_, ?_⟩
            · rw [E.out, ← ST.out]; exact World.cell?_setCell_same _ _ _ h0
            · rw [E1.out]; exact (World.cell?_setCell_other _ _ _ _ (by simp)).trans h1
            · exact (World.frozen?_setCell _ _ _ _).trans f0
            · exact (World.frozen?_setCell _ _ _ _).trans f1
            · exact (HB.out.setCell (Nat.le_refl _) _).drew
            · show _ < (wr.setCell _ _).heap.size; simpa using hsz
          case measure => simp [intOf]; omega
        · have hq : (i : Int) / 8 = 1 := by omega
          have hH := beN_lt l (p + 8) (i - 8)
          have hp : 256 ^ (i - 8) ≤ 256 ^ 7 := Nat.pow_le_pow_right (by omega) (by omega)
          rw [show (256 : Nat) ^ 7 = 72057594037927936 by decide] at hp
          have ST := Lib.hid (shl_or (H := beN l (p + 8) (i - 8)) (c := byt l (p + i)) (by omega) hc)
          have E := Lib.hid (show beN l (p + 8) (i + 1 - 8) = beN l (p + 8) (i - 8) * 256 + byt l (p + i) by
            rw [show i + 1 - 8 = (i - 8) + 1 by omega]
            show _ * 256 + byt l (p + 8 + (i - 8)) = _
            rw [show p + 8 + (i - 8) = p + i by omega])
          have E1 := Lib.hid (show min (i + 1) 8 = min i 8 by omega)
          clear hH hp h8
          go_wp2_with fail
          go_region
          go_wp2_with fail
          go_roundw
          case rel =>
            refine ⟨i + 1, by go_num, by omega, ?_, ?_, ?_, ?_, ?_, ?_⟩
            · rw [E1.out]; exact (World.cell?_setCell_other _ _ _ _ (by simp)).trans h0
            · rw [E.out, ← ST.out]; exact World.cell?_setCell_same _ _ _ h1
            · exact (World.frozen?_setCell _ _ _ _).trans f0
            · exact (World.frozen?_setCell _ _ _ _).trans f1
            · exact (HB.out.setCell (Nat.le_refl _) _).drew
            · show _ < (wr.setCell _ _).heap.size; simpa using hsz
          case measure => simp [intOf]; omega
      · obtain rfl : i = 16 := by omega
        have e0 : beN l p (min 16 8) = beN l p 8 := rfl
        have e1 : beN l (p + 8) (16 - 8) = beN l (p + 8) 8 := rfl
        rw [e0] at h0
        rw [e1] at h1
        clear e0 e1
        have b0 := beN_lt l p 8
        have b1 := beN_lt l (p + 8) 8
        rw [show (256 : Nat) ^ 8 = 18446744073709551616 by decide] at b0 b1
        have hfb : ∀ (x : Nat) w, (callFunc 114 #[.int .u64 (x : Int)]).run Tryz.prog w = .ok (.value (.float .f64 x)) w := fun x w => by
          rw [run_callFunc_extern (e := Extern.MathFloatBits.float64frombits) Tryz.func114 (by kernel_rfl) (by kernel_rfl) (by kernel_rfl) (by kernel_rfl)]
          rfl
        have FA := Lib.hid (fun w => fine_all b0 b1 w)
        have HN := Lib.hid (show ¬ l.length < p + 16 by have := HL.out; omega)
        clear b0 b1
        generalize hX : beN l p 8 = X at *
        generalize hY : beN l (p + 8) 8 = Y at *
        have EX := Lib.hid hX
        have EY := Lib.hid hY
        clear hX hY
        go_wp2_with fail
        go_region
        go_wp2_with fail
        refine (FA.out _).mono ?_
        rintro e w3 ⟨rfl, hb3⟩
        have GB := Lib.hid (G.out.b.below H.out.lt (bthen' HB.out.drew hb3 (Nat.le_refl _)))
        clear hb3
        cases hf : fineB X Y with
        | false =>
          go_wp2_with fail
          refine (fail_any _ _ _).mono ?_
          rintro e w4 ⟨rfl, rfl⟩
          exact ⟨rfl, .inr (.inl ⟨HN.out, by rw [EX.out, EY.out]; exact hf, rfl, _, GB.out⟩)⟩
        | true =>
          go_wp2_with fail
          go_ret
          refine .inr (.inr ⟨HN.out, by rw [EX.out, EY.out]; exact hf, ?_, GB.out⟩)
          rw [EX.out, EY.out]
          rfl
end Go.Proofs.YtaeophaecclnbaaGreatDoor
namespace Go.Proofs.YtaeophaecclnbaaGreatDoor
open Go.RowKit

def Node.cells (x : Node) : List Value := [.int .u8 (x.kind : Int), .int .i64 x.kids, .int .i64 x.int, .string x.text, .complex .f64 x.re x.im]
def nodeCells (c : List Node) : List Value := c.flatMap Node.cells
theorem nodeCells_snoc (c : List Node) (x : Node) : nodeCells (c ++ [x]) = nodeCells c ++ x.cells := by simp [nodeCells]
theorem nodeCells_length (c : List Node) : (nodeCells c).length = c.length * 5 := by
  induction c with
  | nil => rfl
  | cons x c ih => simp only [nodeCells, List.flatMap_cons, List.length_append, List.length_cons] at *; rw [ih]; simp [Node.cells]; omega
theorem nodeCells_at (c : List Node) (k j : Nat) (hk : k < c.length) (hj : j < 5) : (nodeCells c).getD (k * 5 + j) (.int .i64 0) = (atN c k).cells.getD j (.int .i64 0) := by
  induction c generalizing k with
  | nil => exact absurd hk (by simp)
  | cons x c ih =>
    have e : nodeCells (x :: c) = x.cells ++ nodeCells c := by simp [nodeCells]
    rw [e]
    have hl : x.cells.length = 5 := rfl
    cases k with
    | zero =>
      rw [List.getD_eq_getElem?_getD, List.getElem?_append_left (by omega)]
      simp [atN, List.getD_eq_getElem?_getD]
    | succ k =>
      rw [List.getD_eq_getElem?_getD, List.getElem?_append_right (by omega), hl, show (k + 1) * 5 + j - 5 = k * 5 + j by omega, ← List.getD_eq_getElem?_getD, ih k (by simpa using hk)]
      simp [atN]
/-- A row of the call's own that holds nodes. -/
theorem own_nodes {w : World} {base e cap : Nat} {A : Option Addr} {c : List Node} {n : Nat} (h : w.ownsRow base e 5 (.slice A n cap) n (nodeCells c)) (hl : c.length = n) : NodesIn w A c := fun hn => by
  obtain ⟨b, off, hA, hlt, hc⟩ := Sl.of_own (d := .int .i64 0) h (by omega)
  refine ⟨b, off, hA, hlt, fun k hk => ?_⟩
  have g : ∀ j, j < 5 → w.cell? ⟨b, off + (k * 5 + j), none⟩ = some ((atN c k).cells.getD j (.int .i64 0)) := fun j hj => by
    rw [hc (k * 5 + j) (by omega)]
    exact congrArg some (nodeCells_at c k j hk hj)
  exact ⟨g 0 (by omega), by rw [Nat.add_assoc]; exact g 1 (by omega), by rw [Nat.add_assoc]; exact g 2 (by omega), by rw [Nat.add_assoc]; exact g 3 (by omega), by rw [Nat.add_assoc]; exact g 4 (by omega)⟩
/-- Where a row that is not empty lies: at or behind a block. -/
def Far (B : Nat) (A : Option Addr) (n : Nat) : Prop := 0 < n → ∀ b off, A = some ⟨b, off, none⟩ → B ≤ b
theorem Far.nil {B : Nat} {A : Option Addr} : Far B A 0 := fun h => absurd h (by omega)
theorem Far.mono {B C n : Nat} {A : Option Addr} (h : Far B A n) (hC : C ≤ B) : Far C A n := fun hn b off e => Nat.le_trans hC (h hn b off e)
theorem own_far {w : World} {base e sz n cap : Nat} {A : Option Addr} {xs : List Value} (h : w.ownsRow base e sz (.slice A n cap) n xs) {B : Nat} (hB : B ≤ base) : Far B A n := fun hn b off hA => by
  obtain ⟨_, ⟨_, h0⟩ | ⟨g, cap', cur, hv, hb, _⟩⟩ := h
  · omega
  · injection hv with h1 _ _
    rw [hA] at h1
    injection h1 with h1
    injection h1 with h1 _ _
    omega
def lenV : Value → Nat
  | .slice _ n _ => n
  | _ => 0
theorem own_kept {w w' : World} {base e sz n : Nat} {v : Value} {xs : List Value} (h : w.ownsRow base e sz v n xs) (hb : ∀ k, base ≤ k → k < w.heap.size → w'.heap[k]? = w.heap[k]?) : w'.ownsRow base e sz v n xs := by
  obtain ⟨h1, h2 | ⟨g, cap, cur, a, b, c, d⟩⟩ := h
  · exact ⟨h1, .inl h2⟩
  · exact ⟨h1, .inr ⟨g, cap, cur, a, b, (hb g b (Array.getElem?_eq_some_iff.1 c).1).trans c, d⟩⟩
theorem own_ndb {w w' : World} {base e sz n : Nat} {v : Value} {xs : List Value} (h : w.ownsRow base e sz v n xs) (hb : Below w.heap.size w w') : w'.ownsRow base e sz v n xs := own_kept h fun k _ hk => hb.block k hk
theorem own_go {w w' : World} {base e sz n rb q : Nat} {v : Value} {xs : List Value} (h : w.ownsRow base e sz v n xs) (g : GoB rb q w w') (hr : rb < base) : w'.ownsRow base e sz v n xs := own_kept h fun k hk hl => g.2.2.2.2.1 k hl (by omega)
/-- What is there behind the reader, while a row of the call's own grows. -/
theorem GoB.grown {rb q base : Nat} {w w1 w2 : World} {r : Option Nat} (h : GoB rb q w w1) (hr : rb < w.heap.size) (hg : w1.grownBy w2 r) (hb : w.heap.size ≤ base) (hrow : ∀ k, r = some k → base ≤ k) : GoB rb q w w2 := by
  have hl := Nat.lt_of_lt_of_le hr h.2.2.2.1
  have hne : ∀ k, k < w.heap.size → some k ≠ r := fun k hk e => by have := hrow k e.symm; omega
  have hB := hg.block rb hl (hne rb hr)
  exact ⟨hg.os.trans h.1, hg.tape.trans h.2.1, hg.output.trans h.2.2.1, Nat.le_trans h.2.2.2.1 hg.size, fun j hj hk => (hg.block j (Nat.lt_of_lt_of_le hj h.2.2.2.1) (hne j hj)).trans (h.2.2.2.2.1 j hj hk),
    (World.cell?_of_block (a := ⟨rb, 0, none⟩) hB).trans h.2.2.2.2.2.1, (World.cell?_of_block (a := ⟨rb, 1, none⟩) hB).trans h.2.2.2.2.2.2.1, (World.frozen?_of_block (a := ⟨rb, 1, none⟩) hB).trans h.2.2.2.2.2.2.2⟩
theorem cell_five_new (w : World) (a b c d x : Value) (t : TypeId) (g : Nat) (hg : w.heap.size = g) : ∀ j u, [a, b, c, d, x][j]? = some u → (w.alloc (.cells #[a, b, c, d, x] t)).cell? ((⟨g, 0, none⟩ : Addr).add j) = some u := by
  intro j u hj
  subst hg
  match j, hj with
  | 0, hj => simp at hj; subst hj; simp [Addr.add]
  | 1, hj => simp at hj; subst hj; simp [Addr.add]
  | 2, hj => simp at hj; subst hj; simp [Addr.add]
  | 3, hj => simp at hj; subst hj; simp [Addr.add]
  | 4, hj => simp at hj; subst hj; simp [Addr.add]
  | j + 5, hj => simp at hj
theorem store_cx (a : Addr) (x y : Nat) (m : Mode) (w : World) : (store a (.complex .f64 x y) m).run Tryz.prog w = stored Tryz.prog w a (.complex .f64 x y) m := run_store _ w a _ m rfl
theorem infoNode : (Tryz.prog.info? 103).map (fun i => (i.zero, i.size, i.bytes)) = some (some (.agg #[.int .u8 0, .int .i64 0, .int .i64 0, .string ⟨#[]⟩, .complex .f64 0 0]), 5, 56) := by kernel_rfl
/-- What reading a value comes to, from a place on. -/
def VPost (l : List UInt8) (p : Nat) (rb : Nat) (w : World) (e : Ending) (w' : World) : Prop :=
  ((vlS (l.drop p)).2.2 = 0 ∧ ∃ A cc, e = .returned (.slice A (vlS (l.drop p)).1.length cc) ∧ w'.ownsRow w.heap.size 103 5 (.slice A (vlS (l.drop p)).1.length cc) (vlS (l.drop p)).1.length (nodeCells (vlS (l.drop p)).1) ∧ GoB rb (p + (vlS (l.drop p)).2.1) w w') ∨
  ((vlS (l.drop p)).2.2 ≠ 0 ∧ e = .panicked [{ v := faultV ((p + (vlS (l.drop p)).2.1 : Nat) : Int) (vlS (l.drop p)).2.2, recovered := false }] ∧ ∃ q, GoB rb q w w')
theorem VPost.bad {l : List UInt8} {p rb q a : Nat} {er z : Int} {w w' : World} (hv : vlS (l.drop p) = ([], a, er)) (he : er ≠ 0) (hz : z = ((p + a : Nat) : Int)) (g : GoB rb q w w') : VPost l p rb w (.panicked [{ v := faultV z er, recovered := false }]) w' := by
  subst hz
  exact .inr ⟨by rw [hv]; exact he, by rw [hv], q, g⟩
theorem GoB.behind {rb q B : Nat} {w w1 w2 : World} (h : GoB rb q w w1) (hr : rb < w.heap.size) (hB : w.heap.size ≤ B) (k : Below B w1 w2) : GoB rb q w w2 :=
  ⟨k.os.trans h.1, k.tape.trans h.2.1, k.output.trans h.2.2.1, Nat.le_trans h.2.2.2.1 k.size, fun j hj hk => (k.block j (by omega)).trans (h.2.2.2.2.1 j hj hk),
    (k.cell (p := ⟨rb, 0, none⟩) (Nat.lt_of_lt_of_le hr hB)).trans h.2.2.2.2.2.1, (k.cell (p := ⟨rb, 1, none⟩) (Nat.lt_of_lt_of_le hr hB)).trans h.2.2.2.2.2.2.1, (k.frozen (p := ⟨rb, 1, none⟩) (Nat.lt_of_lt_of_le hr hB)).trans h.2.2.2.2.2.2.2⟩
theorem gob_eq {rb q q' : Nat} {w w' : World} (h : GoB rb q w w') (e : q = q') : GoB rb q' w w' := e ▸ h
theorem own_trip {w w4 w5 : World} {base e sz n rb q : Nat} {o : Obj} {v : Value} {xs : List Value} (h : w.ownsRow base e sz v n xs) (hr : rb < base) (g : GoB rb q (w.alloc o) w4) (k : Below w.heap.size w4 w5) : w5.ownsRow base e sz v n xs :=
  own_kept h fun j hj hl => (k.block j hl).trans ((g.2.2.2.2.1 j (by simp; omega) (by omega)).trans (((Below.refl w.heap.size w).alloc (Nat.le_refl _) o).block j hl))
/-- A node's cells, while the reader goes on. -/
theorem five {w2 w4 : World} {rb q : Nat} {K : Int} {t : TypeId} (hr : rb < w2.heap.size) (g : GoB rb q (w2.alloc (.cells #[.int .u8 K, .int .i64 0, .int .i64 0, .string ⟨#[]⟩, .complex .f64 0 0] t)) w4) :
    (w4.cell? ⟨w2.heap.size, 0, none⟩ = some (.int .u8 K) ∧ w4.cell? ⟨w2.heap.size, 1, none⟩ = some (.int .i64 0) ∧ w4.cell? ⟨w2.heap.size, 2, none⟩ = some (.int .i64 0) ∧ w4.cell? ⟨w2.heap.size, 3, none⟩ = some (.string ⟨#[]⟩) ∧ w4.cell? ⟨w2.heap.size, 4, none⟩ = some (.complex .f64 0 0)) ∧
    (∀ j, w4.frozen? ⟨w2.heap.size, j, none⟩ = false) ∧ w2.heap.size < w4.heap.size := by
  have hB := g.2.2.2.2.1 w2.heap.size (by simp) (by omega)
  have hc := fun j => (World.cell?_of_block (a := ⟨w2.heap.size, j, none⟩) hB).trans (cell_new w2 _ rfl _ t j)
  exact ⟨⟨hc 0, hc 1, hc 2, hc 3, hc 4⟩, fun j => (World.frozen?_of_block (a := ⟨w2.heap.size, j, none⟩) hB).trans (frozen_new w2 _ rfl _ t j), Nat.lt_of_lt_of_le (by simp) g.2.2.2.1⟩
theorem own_len {w : World} {base e sz n : Nat} {v : Value} {xs : List Value} (h : w.ownsRow base e sz v n xs) : lenV v = n := by
  obtain ⟨_, ⟨rfl, rfl⟩ | ⟨g, cap, cur, rfl, _⟩⟩ := h <;> rfl
theorem bytes_ok {w : World} {rb : Nat} {A : Option Addr} {n cc : Nat} {l : List UInt8} {p : Nat} (h : RD w rb A n cc l p) (hn : (n : Int) ≤ 140737488351232) (k : Nat) (hk : k ≤ n - p) :
    Calls Tryz.prog 36 #[.pointer (some ⟨rb, 0, none⟩), .int .u64 k] w (fun e w' => e = .returned (.string (strB ((l.drop p).take k))) ∧ Goes rb (p + k) w w') := by
  cases k with
  | zero => exact bytes_zero h hn
  | succ k => exact bytes_some h hn (k + 1) hk (by omega)
theorem num_dropped (l : List UInt8) (p q : Nat) : numS ((l.drop p).drop q) = numS (l.drop (p + q)) := by rw [List.drop_drop]
theorem text_dropped (l : List UInt8) (p q : Nat) : textS ((l.drop p).drop q) = textS (l.drop (p + q)) := by rw [List.drop_drop]
theorem beN_drop (l : List UInt8) (p q : Nat) : ∀ k, beN (l.drop p) q k = beN l (p + q) k
  | 0 => rfl
  | k + 1 => by
    show beN (l.drop p) q k * 256 + byt (l.drop p) (q + k) = beN l (p + q) k * 256 + byt l (p + q + k)
    rw [beN_drop l p q k, byt_drop, Nat.add_assoc]
end Go.Proofs.YtaeophaecclnbaaGreatDoor
