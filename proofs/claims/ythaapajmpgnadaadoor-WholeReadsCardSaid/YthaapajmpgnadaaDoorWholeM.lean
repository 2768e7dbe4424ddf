/- Plain laws for the reference's product: bit by bit. -/
import Derived.Test.YthaapajmpgnadaaDoorWholeP
import Derived.Laws.BitsAllLaws
import Derived.WalkSmall
namespace Go.Proofs.YthaapajmpgnadaaDoor
open Go.RowKit

theorem u64_or_bit (h d : Int) (h0 : 0 ≤ h) (h1 : h ≤ 9223372036854775807) (d0 : 0 ≤ d) (d1 : d ≤ 1) : bits .or .u64 (h * 2) d = h * 2 + d := by
  rw [u64_or _ _ (by omega) (by omega) d0 (by omega), nat_join 1 _ _ (by simp; omega) (by omega)]; omega

/-- The product of sizes behind k rounds. -/
def mulP (A B : Int) (k : Nat) : Int := A * (B / 2 ^ (64 - k))
def mhi (A B : Int) (k : Nat) : Int := mulP A B k / 18446744073709551616
def mlo (A B : Int) (k : Nat) : Int := mulP A B k % 18446744073709551616
theorem mulP_step (A B : Int) (k : Nat) (hk : k < 64) : mulP A B (k + 1) = 2 * mulP A B k + A * ((B / 2 ^ (63 - k)) % 2) := by
  have e1 : 64 - k = (63 - k) + 1 := by omega
  have e2 : 64 - (k + 1) = 63 - k := by omega
  unfold mulP
  rw [e1, e2, Int.pow_succ, ← Int.ediv_ediv_of_nonneg (Int.le_of_lt (Int.pow_pos (by decide)))]
  generalize B / 2 ^ (63 - k) = q
  have h : q = 2 * (q / 2) + q % 2 := by omega
  have h2 : A * q = A * (2 * (q / 2) + q % 2) := by rw [← h]
  rw [h2, Int.mul_add]
  have h3 : A * (2 * (q / 2)) = 2 * (A * (q / 2)) := by rw [← Int.mul_assoc, Int.mul_comm A 2, Int.mul_assoc]
  rw [h3]
theorem mulP_bounds (A B : Int) (k : Nat) (hA : 0 ≤ A) (hA' : A ≤ 9223372036854775808) (hB : 0 ≤ B) (hB' : B ≤ 9223372036854775808) :
    0 ≤ mulP A B k ∧ mulP A B k ≤ 85070591730234615865843651857942052864 := by
  have h1 : 0 ≤ B / 2 ^ (64 - k) := Int.ediv_nonneg hB (Int.le_of_lt (Int.pow_pos (by decide)))
  have h2 : B / 2 ^ (64 - k) ≤ B := Int.ediv_le_self _ hB
  refine ⟨Int.mul_nonneg hA h1, ?_⟩
  have h3 : A * (B / 2 ^ (64 - k)) ≤ 9223372036854775808 * 9223372036854775808 := Int.mul_le_mul hA' (by omega) h1 (by decide)
  exact h3
theorem mhi_bounds (A B : Int) (k : Nat) (hA : 0 ≤ A) (hA' : A ≤ 9223372036854775808) (hB : 0 ≤ B) (hB' : B ≤ 9223372036854775808) :
    0 ≤ mhi A B k ∧ mhi A B k ≤ 4611686018427387904 ∧ 0 ≤ mlo A B k ∧ mlo A B k ≤ 18446744073709551615 := by
  have := mulP_bounds A B k hA hA' hB hB'
  unfold mhi mlo
  omega
theorem mulP_zero (A B : Int) (hB : 0 ≤ B) (hB' : B ≤ 9223372036854775808) : mulP A B 0 = 0 := by
  have : B / 2 ^ 64 = 0 := Int.ediv_eq_zero_of_lt hB (by omega)
  show A * (B / 2 ^ 64) = 0
  rw [this, Int.mul_zero]
theorem mulP_end (A B : Int) : mulP A B 64 = A * B := by unfold mulP; simp

section
variable {A B : Int} {k : Nat}
theorem mul_round_hi (hk : k < 64) (hA : 0 ≤ A) (hA' : A ≤ 9223372036854775808) (hB : 0 ≤ B) (hB' : B ≤ 9223372036854775808) (hb : (B / 2 ^ (63 - k)) % 2 = 1)
    (h : IntKind.u64.wrap (IntKind.u64.wrap (mlo A B k * 2) + A) < IntKind.u64.wrap (mlo A B k * 2)) :
    IntKind.u64.wrap (bits .or .u64 (mhi A B k * 2) (mlo A B k / 9223372036854775808) + 1) = mhi A B (k + 1) := by
  have hs := mulP_step A B k hk
  rw [hb, Int.mul_one] at hs
  obtain ⟨b1, b2, b3, b4⟩ := mhi_bounds A B k hA hA' hB hB'
  rw [u64_or_bit _ _ b1 (by omega) (by omega) (by omega)]
  simp only [IntKind.wrap_u64] at h ⊢
  have hP : mulP A B k = 18446744073709551616 * mhi A B k + mlo A B k := by unfold mhi mlo; omega
  unfold mhi
  rw [hs]
  rw [← show mhi A B k = mulP A B k / 18446744073709551616 from rfl]
  generalize mhi A B k = x at *
  generalize mlo A B k = y at *
  omega
theorem mul_round_hi' (hk : k < 64) (hA : 0 ≤ A) (hA' : A ≤ 9223372036854775808) (hB : 0 ≤ B) (hB' : B ≤ 9223372036854775808) (hb : (B / 2 ^ (63 - k)) % 2 = 1)
    (h : IntKind.u64.wrap (mlo A B k * 2) ≤ IntKind.u64.wrap (IntKind.u64.wrap (mlo A B k * 2) + A)) :
    bits .or .u64 (mhi A B k * 2) (mlo A B k / 9223372036854775808) = mhi A B (k + 1) := by
  have hs := mulP_step A B k hk
  rw [hb, Int.mul_one] at hs
  obtain ⟨b1, b2, b3, b4⟩ := mhi_bounds A B k hA hA' hB hB'
  rw [u64_or_bit _ _ b1 (by omega) (by omega) (by omega)]
  simp only [IntKind.wrap_u64] at h
  have hP : mulP A B k = 18446744073709551616 * mhi A B k + mlo A B k := by unfold mhi mlo; omega
  unfold mhi
  rw [hs]
  rw [← show mhi A B k = mulP A B k / 18446744073709551616 from rfl]
  generalize mhi A B k = x at *
  generalize mlo A B k = y at *
  omega
theorem mul_round_lo (hk : k < 64) (hb : (B / 2 ^ (63 - k)) % 2 = 1) :
    IntKind.u64.wrap (IntKind.u64.wrap (mlo A B k * 2) + A) = mlo A B (k + 1) := by
  have hs := mulP_step A B k hk
  rw [hb, Int.mul_one] at hs
  simp only [IntKind.wrap_u64]
  unfold mlo
  rw [hs]
  omega
theorem mul_skip_hi (hk : k < 64) (hA : 0 ≤ A) (hA' : A ≤ 9223372036854775808) (hB : 0 ≤ B) (hB' : B ≤ 9223372036854775808) (hb : (B / 2 ^ (63 - k)) % 2 = 0) :
    bits .or .u64 (mhi A B k * 2) (mlo A B k / 9223372036854775808) = mhi A B (k + 1) := by
  have hs := mulP_step A B k hk
  rw [hb, Int.mul_zero] at hs
  obtain ⟨b1, b2, b3, b4⟩ := mhi_bounds A B k hA hA' hB hB'
  rw [u64_or_bit _ _ b1 (by omega) (by omega) (by omega)]
  unfold mhi mlo
  rw [hs]
  omega
theorem mul_skip_lo (hk : k < 64) (hb : (B / 2 ^ (63 - k)) % 2 = 0) : IntKind.u64.wrap (mlo A B k * 2) = mlo A B (k + 1) := by
  have hs := mulP_step A B k hk
  rw [hb, Int.mul_zero] at hs
  simp only [IntKind.wrap_u64]
  unfold mlo
  rw [hs]
  omega
theorem bit_yes (hB : 0 ≤ B) (hB' : B ≤ 9223372036854775808) (h : (bits BinOp.and IntKind.u64 (B / 2 ^ (63 - k)) 1 == 1) = true) : (B / 2 ^ (63 - k)) % 2 = 1 := by
  have h1 : 0 ≤ B / 2 ^ (63 - k) := Int.ediv_nonneg hB (Int.le_of_lt (Int.pow_pos (by decide)))
  have h2 : B / 2 ^ (63 - k) ≤ B := Int.ediv_le_self _ hB
  rw [and_one_u64 _ h1 (by omega)] at h
  simpa using h
theorem bit_no (hB : 0 ≤ B) (hB' : B ≤ 9223372036854775808) (h : (bits BinOp.and IntKind.u64 (B / 2 ^ (63 - k)) 1 == 1) = false) : (B / 2 ^ (63 - k)) % 2 = 0 := by
  have h1 : 0 ≤ B / 2 ^ (63 - k) := Int.ediv_nonneg hB (Int.le_of_lt (Int.pow_pos (by decide)))
  have h2 : B / 2 ^ (63 - k) ≤ B := Int.ediv_le_self _ hB
  rw [and_one_u64 _ h1 (by omega)] at h
  have : ¬ (B / 2 ^ (63 - k)) % 2 = 1 := by simpa using h
  omega
end
theorem wv_mul (a b : Int) : wv (lt0 a != lt0 b) (size a * size b / 18446744073709551616) (size a * size b % 18446744073709551616) = a * b := by
  have h : ((a * b).natAbs : Int) = size a * size b := by unfold size; rw [Int.natAbs_mul]; simp
  rw [← h]
  unfold wv lt0
  rcases Int.lt_trichotomy a 0 with h1 | h1 | h1 <;> rcases Int.lt_trichotomy b 0 with h2 | h2 | h2
  · have := Int.mul_pos_of_neg_of_neg h1 h2; simp [h1, h2]; omega
  · subst h2; simp
  · have := Int.mul_neg_of_neg_of_pos h1 h2; simp [h1, Int.not_lt.2 (Int.le_of_lt h2)]; omega
  · subst h1; simp
  · subst h1; simp
  · subst h1; simp
  · have := Int.mul_neg_of_pos_of_neg h1 h2; simp [h2, Int.not_lt.2 (Int.le_of_lt h1)]; omega
  · subst h2; simp
  · have := Int.mul_pos h1 h2; simp [Int.not_lt.2 (Int.le_of_lt h1), Int.not_lt.2 (Int.le_of_lt h2)]; omega
theorem wv_quo (a b : Int) (hb : b ≠ 0) : sat (wv (lt0 a != lt0 b) 0 (size a / size b)) = quo a b := by
  rw [quo, if_neg hb]
  congr 1
  have hn : (a.tdiv b).natAbs = a.natAbs / b.natAbs := Int.natAbs_tdiv a b
  have hd : size a / size b = ((a.natAbs / b.natAbs : Nat) : Int) := by unfold size; simp
  unfold wv lt0
  rw [hd]
  generalize a.natAbs / b.natAbs = q at *
  by_cases h1 : a < 0 <;> by_cases h2 : b < 0
  · have h3 := Int.tdiv_nonneg (a := -a) (b := -b) (by omega) (by omega); rw [Int.neg_tdiv, Int.tdiv_neg] at h3; simp [h1, h2]; omega
  · have h3 := Int.tdiv_nonneg (a := -a) (b := b) (by omega) (by omega); rw [Int.neg_tdiv] at h3; simp [h1, h2]; omega
  · have h3 := Int.tdiv_nonneg (a := a) (b := -b) (by omega) (by omega); rw [Int.tdiv_neg] at h3; simp [h1, h2]; omega
  · have h3 := Int.tdiv_nonneg (Int.not_lt.1 h1) (Int.not_lt.1 h2); simp [h1, h2]; omega
theorem wv_rst (a b : Int) (hb : b ≠ 0) (ha : -9223372036854775808 ≤ a) (ha' : a ≤ 9223372036854775807) : sat (wv (lt0 a) 0 (size a % size b)) = rst a b := by
  rw [rst, if_neg hb]
  have hn : (a.tmod b).natAbs = a.natAbs % b.natAbs := Int.natAbs_tmod a b
  have hd : size a % size b = ((a.natAbs % b.natAbs : Nat) : Int) := by unfold size; simp
  have hm : a.natAbs % b.natAbs ≤ a.natAbs := Nat.mod_le _ _
  unfold wv lt0
  rw [hd]
  generalize a.natAbs % b.natAbs = q at *
  by_cases h1 : a < 0
  · have h3 := Int.tmod_nonneg (a := -a) b (by omega); rw [Int.neg_tmod] at h3; simp [h1]; rw [sat_in] <;> omega
  · have h3 := Int.tmod_nonneg (a := a) b (by omega); simp [h1]; rw [sat_in] <;> omega
end Go.Proofs.YthaapajmpgnadaaDoor
