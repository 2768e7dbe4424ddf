/- Plain laws on numbers held within the ends of 64 bits: no program in sight. -/
import Derived.RowKit
namespace Go.Proofs.YtefijgdbnjmifaaDoor
open Go.RowKit

/-- A number held within the ends. -/
def sat (x : Int) : Int := if x < -9223372036854775808 then -9223372036854775808 else if 9223372036854775807 < x then 9223372036854775807 else x
theorem sat_in {x : Int} (h : -9223372036854775808 ≤ x) (h' : x ≤ 9223372036854775807) : sat x = x := by unfold sat; omega
theorem sat_hi {x : Int} (h : 9223372036854775807 < x) : sat x = 9223372036854775807 := by unfold sat; omega
theorem sat_lo {x : Int} (h : x < -9223372036854775808) : sat x = -9223372036854775808 := by unfold sat; omega
theorem sat_bounds (x : Int) : -9223372036854775808 ≤ sat x ∧ sat x ≤ 9223372036854775807 := by unfold sat; omega
theorem wrap64_bounds (x : Int) : -9223372036854775808 ≤ wrap64 x ∧ wrap64 x ≤ 9223372036854775807 := by unfold wrap64; omega
theorem wrap64_self {x : Int} (h : -9223372036854775808 ≤ x) (h' : x ≤ 9223372036854775807) : wrap64 x = x := by unfold wrap64; omega
theorem wrap64_step (x : Int) : ∃ k : Int, wrap64 x = x + 18446744073709551616 * k := by
  refine ⟨-((x + 9223372036854775808) / 18446744073709551616), ?_⟩
  unfold wrap64; omega

theorem tdiv_near (c b : Int) (hb : b ≠ 0) : c - c.tdiv b * b < b.natAbs ∧ -(b.natAbs : Int) < c - c.tdiv b * b := by
  have h := Int.mul_tdiv_add_tmod c b
  have h1 : (c.tmod b).natAbs < b.natAbs := by rw [Int.natAbs_tmod]; exact Nat.mod_lt _ (by omega)
  have hm : c - c.tdiv b * b = c.tmod b := by rw [Int.mul_comm]; omega
  omega

/-- The product as the code tells that it fits. -/
theorem mul_fits (a b : Int) (hb : b ≠ 0) (hb1 : -9223372036854775808 ≤ b) (hb2 : b ≤ 9223372036854775807) (h : (wrap64 (a * b)).tdiv b = a) :
    -9223372036854775808 ≤ a * b ∧ a * b ≤ 9223372036854775807 := by
  obtain ⟨k, hk⟩ := wrap64_step (a * b)
  have hn := tdiv_near (wrap64 (a * b)) b hb
  have hw := wrap64_bounds (a * b)
  rw [h] at hn
  have : k = 0 := by omega
  subst this
  omega
theorem mul_fits_not (a b : Int) (h1 : -9223372036854775808 ≤ a * b) (h2 : a * b ≤ 9223372036854775807) (hb : b ≠ 0) : (wrap64 (a * b)).tdiv b = a := by
  rw [wrap64_self h1 h2, Int.mul_tdiv_cancel _ hb]
theorem mul_over (a b : Int) (hb : b ≠ 0) (ha : a ≠ 0) (h : ¬ (wrap64 (a * b)).tdiv b = a) (hs : (a < 0 ↔ b < 0)) : sat (a * b) = 9223372036854775807 := by
  apply sat_hi
  have hp : 0 ≤ a * b := by
    rcases Int.lt_or_lt_of_ne ha with h1 | h1
    · have := hs.1 h1; exact Int.le_of_lt (Int.mul_pos_of_neg_of_neg h1 this)
    · exact Int.le_of_lt (Int.mul_pos h1 (by omega))
  have := mul_fits_not a b (by omega)
  omega
theorem mul_under (a b : Int) (hb : b ≠ 0) (ha : a ≠ 0) (h : ¬ (wrap64 (a * b)).tdiv b = a) (hs : ¬ (a < 0 ↔ b < 0)) : sat (a * b) = -9223372036854775808 := by
  apply sat_lo
  have hp : a * b ≤ 0 := by
    rcases Int.lt_or_lt_of_ne ha with h1 | h1
    · exact Int.le_of_lt (Int.mul_neg_of_neg_of_pos h1 (by omega))
    · exact Int.le_of_lt (Int.mul_neg_of_pos_of_neg h1 (by omega))
  have := mul_fits_not a b
  omega

theorem tdiv_bounds (a b : Int) (hb : b ≠ 0) (hb' : b ≠ -1) (h1 : -9223372036854775808 ≤ a) (h2 : a ≤ 9223372036854775807) : -9223372036854775808 ≤ a.tdiv b ∧ a.tdiv b ≤ 9223372036854775807 := by
  have h : (a.tdiv b).natAbs = a.natAbs / b.natAbs := Int.natAbs_tdiv a b
  have h3 : a.natAbs / b.natAbs ≤ a.natAbs := Nat.div_le_self _ _
  by_cases h4 : b = 1
  · subst h4; simp; omega
  · have h5 : a.natAbs / b.natAbs ≤ a.natAbs / 2 := Nat.div_le_div_left (by omega) (by omega)
    omega
theorem mul_once (a b : Int) (hb : b ≠ 0) (h1 : -9223372036854775808 < a) (h2 : a ≤ 9223372036854775807) : wrap64 ((wrap64 (a * b)).tdiv b) = (wrap64 (a * b)).tdiv b := by
  have hw := wrap64_bounds (a * b)
  by_cases h : b = -1
  · subst h
    have e : a * -1 = -a := by omega
    rw [e, wrap64_self (x := -a) (by omega) (by omega)]
    simp
    exact wrap64_self (by omega) (by omega)
  · have := tdiv_bounds _ b hb h hw.1 hw.2
    exact wrap64_self this.1 this.2
theorem mul_once' (b : Int) (hb : b ≠ 0) (hb' : b ≠ -1) : wrap64 ((wrap64 (-9223372036854775808 * b)).tdiv b) = (wrap64 (-9223372036854775808 * b)).tdiv b := by
  have hw := wrap64_bounds (-9223372036854775808 * b)
  have := tdiv_bounds _ b hb hb' hw.1 hw.2
  exact wrap64_self this.1 this.2
/-- The end on a side. -/
def endOf (b : Bool) : Int := if b then -9223372036854775808 else 9223372036854775807
/-- What the code of the product answers where no part is 0 and none of the two great ways is met. -/
def mulCode (a b : Int) : Int := if wrap64 ((wrap64 (a * b)).tdiv b) = a then wrap64 (a * b) else endOf (!decide (a < 0) == decide (b < 0))
theorem mulCode_eq (a b : Int) (ha : a ≠ 0) (hb : b ≠ 0) (hab : ¬ (a = -9223372036854775808 ∧ b = -1)) (h1 : -9223372036854775808 ≤ a) (h2 : a ≤ 9223372036854775807)
    (hb1 : -9223372036854775808 ≤ b) (hb2 : b ≤ 9223372036854775807) : mulCode a b = sat (a * b) := by
  have e : wrap64 ((wrap64 (a * b)).tdiv b) = (wrap64 (a * b)).tdiv b := by
    by_cases h : a = -9223372036854775808
    · subst h; exact mul_once' b hb (by omega)
    · exact mul_once a b hb (by omega) h2
  rw [mulCode, e]
  by_cases h : (wrap64 (a * b)).tdiv b = a
  · rw [if_pos h]
    have := mul_fits a b hb hb1 hb2 h
    rw [wrap64_self this.1 this.2, sat_in this.1 this.2]
  · rw [if_neg h]
    by_cases h3 : a < 0 <;> by_cases h4 : b < 0
    · rw [mul_over a b hb ha h (by omega)]; simp [endOf, h3, h4]
    · rw [mul_under a b hb ha h (by omega)]; simp [endOf, h3, h4]
    · rw [mul_under a b hb ha h (by omega)]; simp [endOf, h3, h4]
    · rw [mul_over a b hb ha h (by omega)]; simp [endOf, h3, h4]

/-- The document's quotient, rest, and errors. -/
def quo (a b : Int) : Int := if b = 0 then 0 else sat (a.tdiv b)
def rst (a b : Int) : Int := if b = 0 then 0 else a.tmod b
def zeroErr (b : Int) : Int := if b = 0 then 10 else 0
theorem quo_in (a b : Int) (hb : b ≠ 0) (hb' : b ≠ -1) (h1 : -9223372036854775808 ≤ a) (h2 : a ≤ 9223372036854775807) : wrap64 (a.tdiv b) = quo a b := by
  have := tdiv_bounds a b hb hb' h1 h2
  rw [wrap64_self this.1 this.2, quo, if_neg hb, sat_in this.1 this.2]
theorem quo_zero (a : Int) : quo a 0 = 0 := rfl
theorem quo_neg (a : Int) : quo a (-1) = sat (-a) := by simp [quo]
theorem rst_neg (a : Int) : rst a (-1) = 0 := by simp [rst]
theorem rst_in (a b : Int) (hb : b ≠ 0) : rst a b = a.tmod b := by simp [rst, hb]
theorem zeroErr_not {b : Int} (hb : b ≠ 0) : zeroErr b = 0 := by simp [zeroErr, hb]

/-- A number times a power of two. -/
def shl (a n : Int) : Int := sat (a * 2 ^ n.toNat)
theorem pow_big {m n : Nat} (h : m ≤ n) : (2 : Int) ^ m ≤ 2 ^ n := by
  have := Nat.pow_le_pow_right (n := 2) (by decide) h
  exact_mod_cast this
theorem shl_low (a n : Int) (hn : n ≤ 0) (h1 : -9223372036854775808 ≤ a) (h2 : a ≤ 9223372036854775807) : shl a n = a := by
  have : n.toNat = 0 := by omega
  rw [shl, this]; simp; exact sat_in h1 h2
theorem shl_zero (n : Int) : shl 0 n = 0 := by simp [shl, sat]
theorem shl_fits (a n : Int) (h : wrap64 (a * 2 ^ n.toNat) / 2 ^ n.toNat = a) (hn : n ≤ 63) : shl a n = wrap64 (a * 2 ^ n.toNat) := by
  have hp : (0 : Int) < 2 ^ n.toNat := Int.pow_pos (by decide)
  have hq := pow_big (show n.toNat ≤ 63 by omega)
  have hw := wrap64_bounds (a * 2 ^ n.toNat)
  obtain ⟨k, hk⟩ := wrap64_step (a * 2 ^ n.toNat)
  have h3 := Int.mul_ediv_add_emod (wrap64 (a * 2 ^ n.toNat)) (2 ^ n.toNat)
  have h4 := Int.emod_lt_of_pos (wrap64 (a * 2 ^ n.toNat)) hp
  have h5 := Int.emod_nonneg (wrap64 (a * 2 ^ n.toNat)) (b := 2 ^ n.toNat) (by omega)
  rw [h, Int.mul_comm] at h3
  rw [shl]
  generalize (2 : Int) ^ n.toNat = p at *
  generalize a * p = x at *
  have : k = 0 := by omega
  subst this
  rw [sat_in] <;> omega
theorem shl_over (a n : Int) (h : ¬ wrap64 (a * 2 ^ n.toNat) / 2 ^ n.toNat = a ∨ 63 < n) (ha : a ≠ 0) : shl a n = endOf (decide (a < 0)) := by
  have hp : (0 : Int) < 2 ^ n.toNat := Int.pow_pos (by decide)
  have key : ¬ (-9223372036854775808 ≤ a * 2 ^ n.toNat ∧ a * 2 ^ n.toNat ≤ 9223372036854775807) := by
    rintro ⟨h1, h2⟩
    rcases h with h | h
    · rw [wrap64_self h1 h2] at h
      exact h (Int.mul_ediv_cancel _ (by omega))
    · have hq := pow_big (show 64 ≤ n.toNat by omega)
      rcases Int.lt_or_lt_of_ne ha with h3 | h3
      · have : a * 2 ^ n.toNat ≤ (-1) * 2 ^ n.toNat := Int.mul_le_mul_of_nonneg_right (by omega) (by omega)
        omega
      · have : 1 * 2 ^ n.toNat ≤ a * 2 ^ n.toNat := Int.mul_le_mul_of_nonneg_right (by omega) (by omega)
        omega
  rw [shl]
  by_cases h3 : a < 0
  · have : a * 2 ^ n.toNat ≤ 0 := Int.mul_nonpos_of_nonpos_of_nonneg (by omega) (by omega)
    simp only [endOf, h3, decide_true, if_true]
    exact sat_lo (by omega)
  · simp only [endOf, h3, decide_false, Bool.false_eq_true, if_false]
    have : 0 ≤ a * 2 ^ n.toNat := Int.mul_nonneg (by omega) (by omega)
    exact sat_hi (by omega)
theorem shl_bounds (a n : Int) : -9223372036854775808 ≤ shl a n ∧ shl a n ≤ 9223372036854775807 := sat_bounds _
theorem sat_sat_add (x : Int) : sat (sat x + sat x) = sat (x * 2) := by
  unfold sat
  split
  · split
    · split <;> omega
    · omega
  · split
    · split
      · omega
      · split <;> omega
    · split
      · split <;> omega
      · split
        · split <;> omega
        · split
          · omega
          · split <;> omega
theorem shl_twice (a : Int) (k : Nat) : sat (shl a k + shl a k) = shl a ((k + 1 : Nat) : Int) := by
  unfold shl
  rw [sat_sat_add, Int.toNat_natCast, Int.toNat_natCast, Int.pow_succ, Int.mul_assoc]
theorem shl_big (a : Int) (n : Int) (hn : 64 ≤ n) : shl a n = if a = 0 then 0 else endOf (decide (a < 0)) := by
  by_cases h : a = 0
  · subst h; simp [shl_zero]
  · rw [if_neg h]; exact shl_over a n (.inr (by omega)) h
theorem shl_past (a : Int) (k : Nat) (n : Int) (hk : 64 ≤ (k : Int)) (hn : 64 ≤ n) : shl a k = shl a n := by rw [shl_big a n hn, shl_big a k hk]
theorem shl_done (a : Int) (k : Nat) (n : Int) (h : n ≤ k) (hn : (k : Int) ≤ n ∨ k = 0) : shl a k = shl a n := by
  rcases hn with h1 | rfl
  · obtain rfl : n = k := by omega
    rfl
  · unfold shl
    have : n.toNat = 0 := by omega
    rw [this]; rfl

/-- What a wide number is. -/
def wv (b : Bool) (hi lo : Int) : Int := if b then -(18446744073709551616 * hi + lo) else 18446744073709551616 * hi + lo
def sumHi (bx : Bool) (lx : Int) (by_ : Bool) (ly : Int) : Int := if bx = by_ then (lx + ly) / 18446744073709551616 else 0
def sumLo (bx : Bool) (lx : Int) (by_ : Bool) (ly : Int) : Int := if bx = by_ then (lx + ly) % 18446744073709551616 else if ly ≤ lx then lx - ly else ly - lx
def sumB (bx : Bool) (lx : Int) (by_ : Bool) (ly : Int) : Bool := if bx = by_ then bx else if ly ≤ lx then bx else by_
theorem sum_wv (bx : Bool) (lx : Int) (by_ : Bool) (ly : Int) (_ : 0 ≤ lx) (_ : 0 ≤ ly) : wv (sumB bx lx by_ ly) (sumHi bx lx by_ ly) (sumLo bx lx by_ ly) = wv bx 0 lx + wv by_ 0 ly := by
  unfold wv sumB sumHi sumLo
  cases bx <;> cases by_ <;> simp
  · omega
  · split <;> (try simp) <;> omega
  · split <;> (try simp) <;> omega
  · omega
theorem sum_bounds (bx : Bool) (lx : Int) (by_ : Bool) (ly : Int) (h1 : 0 ≤ lx) (h2 : 0 ≤ ly) (h3 : lx ≤ 18446744073709551615) (h4 : ly ≤ 18446744073709551615) :
    0 ≤ sumHi bx lx by_ ly ∧ sumHi bx lx by_ ly ≤ 1 ∧ 0 ≤ sumLo bx lx by_ ly ∧ sumLo bx lx by_ ly ≤ 18446744073709551615 := by
  unfold sumHi sumLo
  split
  · omega
  · split <;> omega
def lt0 (a : Int) : Bool := decide (a < 0)
def size (a : Int) : Int := (a.natAbs : Int)
theorem wv_of (a : Int) : wv (lt0 a) 0 (size a) = a := by unfold wv lt0 size; by_cases h : a < 0 <;> simp [h] <;> omega
theorem held_neg (lo : Int) (h0 : 0 ≤ lo) (h : lo ≤ 9223372036854775808) : wrap64 (-lo % 18446744073709551616) = sat (wv true 0 lo) := by
  rw [sat_in (by simp [wv]; omega) (by simp [wv]; omega)]; simp [wv]; unfold wrap64; omega
theorem held_neg' (lo : Int) (h0 : 0 ≤ lo) (h : lo ≤ 9223372036854775808) : wrap64 (-lo) = sat (wv true 0 lo) := by
  rw [sat_in (by simp [wv]; omega) (by simp [wv]; omega)]; simp [wv]; unfold wrap64; omega
theorem held_lo (hi lo : Int) (h0 : 0 ≤ hi) (h2 : 0 ≤ lo) (h : 0 < hi ∨ 9223372036854775808 < lo) : sat (wv true hi lo) = -9223372036854775808 := by
  apply sat_lo; simp [wv]; omega
theorem held_hi (hi lo : Int) (h0 : 0 ≤ hi) (h2 : 0 ≤ lo) (h : 0 < hi ∨ 9223372036854775808 ≤ lo) : sat (wv false hi lo) = 9223372036854775807 := by
  apply sat_hi; simp [wv]; omega
theorem held_in (lo : Int) (h2 : 0 ≤ lo) (h : lo < 9223372036854775808) : sat (wv false 0 lo) = lo := by
  rw [sat_in (by simp [wv]; omega) (by simp [wv]; omega)]; simp [wv]
theorem wv_not (b : Bool) (x : Int) : wv (!b) 0 x = - wv b 0 x := by cases b <;> simp [wv]
end Go.Proofs.YtefijgdbnjmifaaDoor
