/- The statements WholeRises and WholeRests of layer 1, walked. -/
import Derived.Test.YthaapajmpgnadaaDoorLawA
namespace Go.Proofs.YthaapajmpgnadaaDoor
open Go.RowKit

theorem sat_mono {x y : Int} (h : x ≤ y) : sat x ≤ sat y := by unfold sat; split <;> split <;> (try split) <;> (try split) <;> omega
/-- A number, or the end that it lies beyond. -/
def clampV (x lo hi : Int) : Int := if x < lo then lo else if hi < x then hi else x
theorem clamp_any (x lo hi : Int) (w : World) : Calls Tryd.prog 16 #[.int .i64 x, .int .i64 lo, .int .i64 hi] w (Ret (.int .i64 (clampV x lo hi)) w) := by
  have e0 : clampV x lo hi = if x < lo then lo else if hi < x then hi else x := rfl
  have e := Lib.hid e0
  clear e0
  by_cases h1 : x < lo
  · go_enter Tryd.func16, Tryd.ntmps16
    go_wp2_with fail
    go_ret
    exact ⟨ret_int (by rw [e.out, if_pos h1]), rfl⟩
  · by_cases h2 : hi < x
    · go_enter Tryd.func16, Tryd.ntmps16
      go_wp2_with fail
      go_ret
      exact ⟨ret_int (by rw [e.out, if_neg (by omega), if_pos h2]), rfl⟩
    · go_enter Tryd.func16, Tryd.ntmps16
      go_wp2_with fail
      go_ret
      exact ⟨ret_int (by rw [e.out, if_neg (by omega), if_neg (by omega)]), rfl⟩

theorem sat_mid {x : Int} (h1 : ¬ sat x = 9223372036854775807) (h2 : ¬ sat x = -9223372036854775808) : sat x = x := by unfold sat at *; split at h1 <;> split at h2 <;> (try split at h1) <;> (try split at h2) <;> omega
theorem sat_back1 (a b : Int) (h1 : ¬ sat (a + b) = 9223372036854775807) (h2 : ¬ sat (a + b) = -9223372036854775808) (ha : -9223372036854775808 ≤ a) (ha' : a ≤ 9223372036854775807) : sat (sat (a + b) - b) = a := by
  rw [sat_mid h1 h2, sat_in] <;> omega
theorem sat_back2 (a b : Int) (h1 : ¬ sat (a + b) = 9223372036854775807) (h2 : ¬ sat (a + b) = -9223372036854775808) (hb : -9223372036854775808 ≤ b) (hb' : b ≤ 9223372036854775807) : sat (sat (a + b) - a) = b := by
  rw [sat_mid h1 h2, sat_in] <;> omega
set_option maxHeartbeats 1000000 in
theorem rises1 (a b c : Int) (ha : -9223372036854775808 ≤ a) (ha' : a ≤ 9223372036854775807) (hb : -9223372036854775808 ≤ b) (hb' : b ≤ 9223372036854775807) (_hc : -9223372036854775808 ≤ c) (_hc' : c ≤ 9223372036854775807) (hle : b < a) (w : World) (hp : Pow10 w) :
    Calls Tryd.prog 4 #[.int .i64 a, .int .i64 b, .int .i64 c] w (RetB (.bool true) w) := by
  have H := Lib.hid hp
  clear hp
  go_enter Tryd.func4, Tryd.ntmps4
  go_wp2_with fail
  refine (awake_any _ H.out).mono ?_; rintro e w1 ⟨rfl, h1⟩
  go_wp2_with fail
  refine (add_any a b ha ha' hb hb' _).mono ?_; rintro e w' ⟨rfl, rfl⟩
  go_wp2_with fail
  refine (add_any b a hb hb' ha ha' _).mono ?_; rintro e w' ⟨rfl, rfl⟩
  rw [Int.add_comm b a]
  go_wp2_with fail
  refine (mul_any a b ha ha' hb hb' _).mono ?_; rintro e w' ⟨rfl, rfl⟩
  go_wp2_with fail
  refine (mul_any b a hb hb' ha ha' _).mono ?_; rintro e w' ⟨rfl, rfl⟩
  rw [Int.mul_comm b a]
  go_wp2_with fail
  refine (add_any a b ha ha' hb hb' _).mono ?_; rintro e w' ⟨rfl, rfl⟩
  have sb := sat_bounds (a + b)
  by_cases t1 : sat (a + b) = 9223372036854775807
  · rw [t1]
    go_wp2_with fail
    go_ret
    exact ⟨rfl, h1⟩
  by_cases t2 : sat (a + b) = -9223372036854775808
  · rw [t2]
    go_wp2_with fail
    go_ret
    exact ⟨rfl, h1⟩
  have t3 : sat (a + b) = a + b := sat_mid t1 t2
  have t4 := Lib.hid (sat_back1 a b t1 t2 ha ha')
  have t5 := Lib.hid (sat_back2 a b t1 t2 hb hb')
  have e1 : (sat (a + b) == 9223372036854775807) = false := by simpa using t1
  have e2 : (sat (a + b) == -9223372036854775808) = false := by simpa using t2
  clear t1 t2 t3
  go_wp2_with fail
  refine (sub_any _ b sb.1 sb.2 hb hb' _).mono ?_; rintro e w' ⟨rfl, rfl⟩
  rw [t4.out]
  go_wp2_with fail
  refine (sub_any _ a sb.1 sb.2 ha ha' _).mono ?_; rintro e w' ⟨rfl, rfl⟩
  rw [t5.out]
  go_wp2_with fail
  go_ret
  exact ⟨rfl, h1⟩

set_option maxHeartbeats 1000000 in
theorem rises2 (a b c : Int) (ha : -9223372036854775808 ≤ a) (ha' : a ≤ 9223372036854775807) (hb : -9223372036854775808 ≤ b) (hb' : b ≤ 9223372036854775807) (hc : -9223372036854775808 ≤ c) (hc' : c ≤ 9223372036854775807) (hle : a ≤ b) (hc0 : c < 0) (w : World) (hp : Pow10 w) :
    Calls Tryd.prog 4 #[.int .i64 a, .int .i64 b, .int .i64 c] w (RetB (.bool true) w) := by
  have H := Lib.hid hp
  clear hp
  have m1 : decide (sat (b + c) < sat (a + c)) = false := decide_eq_false (Int.not_lt.2 (sat_mono (by omega)))
  have m2 : decide (sat (b - c) < sat (a - c)) = false := decide_eq_false (Int.not_lt.2 (sat_mono (by omega)))
  go_enter Tryd.func4, Tryd.ntmps4
  go_wp2_with fail
  refine (awake_any _ H.out).mono ?_; rintro e w1 ⟨rfl, h1⟩
  go_wp2_with fail
  refine (add_any a b ha ha' hb hb' _).mono ?_; rintro e w' ⟨rfl, rfl⟩
  go_wp2_with fail
  refine (add_any b a hb hb' ha ha' _).mono ?_; rintro e w' ⟨rfl, rfl⟩
  rw [Int.add_comm b a]
  go_wp2_with fail
  refine (mul_any a b ha ha' hb hb' _).mono ?_; rintro e w' ⟨rfl, rfl⟩
  go_wp2_with fail
  refine (mul_any b a hb hb' ha ha' _).mono ?_; rintro e w' ⟨rfl, rfl⟩
  rw [Int.mul_comm b a]
  go_wp2_with fail
  refine (add_any a c ha ha' hc hc' _).mono ?_; rintro e w' ⟨rfl, rfl⟩
  go_wp2_with fail
  refine (add_any b c hb hb' hc hc' _).mono ?_; rintro e w' ⟨rfl, rfl⟩
  go_wp2_with fail
  refine (sub_any a c ha ha' hc hc' _).mono ?_; rintro e w' ⟨rfl, rfl⟩
  go_wp2_with fail
  refine (sub_any b c hb hb' hc hc' _).mono ?_; rintro e w' ⟨rfl, rfl⟩
  go_wp2_with fail
  refine (add_any a b ha ha' hb hb' _).mono ?_; rintro e w' ⟨rfl, rfl⟩
  have sb := sat_bounds (a + b)
  by_cases t1 : sat (a + b) = 9223372036854775807
  · rw [t1]
    go_wp2_with fail
    go_ret
    exact ⟨rfl, h1⟩
  by_cases t2 : sat (a + b) = -9223372036854775808
  · rw [t2]
    go_wp2_with fail
    go_ret
    exact ⟨rfl, h1⟩
  have t3 : sat (a + b) = a + b := sat_mid t1 t2
  have t4 := Lib.hid (sat_back1 a b t1 t2 ha ha')
  have t5 := Lib.hid (sat_back2 a b t1 t2 hb hb')
  have e1 : (sat (a + b) == 9223372036854775807) = false := by simpa using t1
  have e2 : (sat (a + b) == -9223372036854775808) = false := by simpa using t2
  clear t1 t2 t3
  go_wp2_with fail
  refine (sub_any _ b sb.1 sb.2 hb hb' _).mono ?_; rintro e w' ⟨rfl, rfl⟩
  rw [t4.out]
  go_wp2_with fail
  refine (sub_any _ a sb.1 sb.2 ha ha' _).mono ?_; rintro e w' ⟨rfl, rfl⟩
  rw [t5.out]
  go_wp2_with fail
  go_ret
  exact ⟨rfl, h1⟩

set_option maxHeartbeats 1000000 in
theorem rises3 (a b c : Int) (ha : -9223372036854775808 ≤ a) (ha' : a ≤ 9223372036854775807) (hb : -9223372036854775808 ≤ b) (hb' : b ≤ 9223372036854775807) (hc : -9223372036854775808 ≤ c) (hc' : c ≤ 9223372036854775807) (hle : a ≤ b) (hc0 : 0 ≤ c) (w : World) (hp : Pow10 w) :
    Calls Tryd.prog 4 #[.int .i64 a, .int .i64 b, .int .i64 c] w (RetB (.bool true) w) := by
  have H := Lib.hid hp
  clear hp
  have m1 : decide (sat (b + c) < sat (a + c)) = false := decide_eq_false (Int.not_lt.2 (sat_mono (by omega)))
  have m2 : decide (sat (b - c) < sat (a - c)) = false := decide_eq_false (Int.not_lt.2 (sat_mono (by omega)))
  have m3 : decide (sat (b * c) < sat (a * c)) = false := decide_eq_false (Int.not_lt.2 (sat_mono (Int.mul_le_mul_of_nonneg_right hle hc0)))
  go_enter Tryd.func4, Tryd.ntmps4
  go_wp2_with fail
  refine (awake_any _ H.out).mono ?_; rintro e w1 ⟨rfl, h1⟩
  go_wp2_with fail
  refine (add_any a b ha ha' hb hb' _).mono ?_; rintro e w' ⟨rfl, rfl⟩
  go_wp2_with fail
  refine (add_any b a hb hb' ha ha' _).mono ?_; rintro e w' ⟨rfl, rfl⟩
  rw [Int.add_comm b a]
  go_wp2_with fail
  refine (mul_any a b ha ha' hb hb' _).mono ?_; rintro e w' ⟨rfl, rfl⟩
  go_wp2_with fail
  refine (mul_any b a hb hb' ha ha' _).mono ?_; rintro e w' ⟨rfl, rfl⟩
  rw [Int.mul_comm b a]
  go_wp2_with fail
  refine (add_any a c ha ha' hc hc' _).mono ?_; rintro e w' ⟨rfl, rfl⟩
  go_wp2_with fail
  refine (add_any b c hb hb' hc hc' _).mono ?_; rintro e w' ⟨rfl, rfl⟩
  go_wp2_with fail
  refine (sub_any a c ha ha' hc hc' _).mono ?_; rintro e w' ⟨rfl, rfl⟩
  go_wp2_with fail
  refine (sub_any b c hb hb' hc hc' _).mono ?_; rintro e w' ⟨rfl, rfl⟩
  go_wp2_with fail
  refine (mul_any a c ha ha' hc hc' _).mono ?_; rintro e w' ⟨rfl, rfl⟩
  go_wp2_with fail
  refine (mul_any b c hb hb' hc hc' _).mono ?_; rintro e w' ⟨rfl, rfl⟩
  go_wp2_with fail
  refine (add_any a b ha ha' hb hb' _).mono ?_; rintro e w' ⟨rfl, rfl⟩
  have sb := sat_bounds (a + b)
  by_cases t1 : sat (a + b) = 9223372036854775807
  · rw [t1]
    go_wp2_with fail
    go_ret
    exact ⟨rfl, h1⟩
  by_cases t2 : sat (a + b) = -9223372036854775808
  · rw [t2]
    go_wp2_with fail
    go_ret
    exact ⟨rfl, h1⟩
  have t3 : sat (a + b) = a + b := sat_mid t1 t2
  have t4 := Lib.hid (sat_back1 a b t1 t2 ha ha')
  have t5 := Lib.hid (sat_back2 a b t1 t2 hb hb')
  have e1 : (sat (a + b) == 9223372036854775807) = false := by simpa using t1
  have e2 : (sat (a + b) == -9223372036854775808) = false := by simpa using t2
  clear t1 t2 t3
  go_wp2_with fail
  refine (sub_any _ b sb.1 sb.2 hb hb' _).mono ?_; rintro e w' ⟨rfl, rfl⟩
  rw [t4.out]
  go_wp2_with fail
  refine (sub_any _ a sb.1 sb.2 ha ha' _).mono ?_; rintro e w' ⟨rfl, rfl⟩
  rw [t5.out]
  go_wp2_with fail
  go_ret
  exact ⟨rfl, h1⟩

theorem rises_law (a b c : Int) (ha : -9223372036854775808 ≤ a) (ha' : a ≤ 9223372036854775807) (hb : -9223372036854775808 ≤ b) (hb' : b ≤ 9223372036854775807) (hc : -9223372036854775808 ≤ c) (hc' : c ≤ 9223372036854775807) (w : World) (hp : Pow10 w) :
    Calls Tryd.prog 4 #[.int .i64 a, .int .i64 b, .int .i64 c] w (RetB (.bool true) w) := by
  by_cases hle : a ≤ b
  · by_cases hc0 : 0 ≤ c
    · exact rises3 a b c ha ha' hb hb' hc hc' hle hc0 w hp
    · exact rises2 a b c ha ha' hb hb' hc hc' hle (by omega) w hp
  · exact rises1 a b c ha ha' hb hb' hc hc' (by omega) w hp

theorem quo_bounds (a b : Int) : -9223372036854775808 ≤ quo a b ∧ quo a b ≤ 9223372036854775807 := by
  unfold quo
  split
  · omega
  · exact sat_bounds _
theorem rst_bounds (a b : Int) (ha : -9223372036854775808 ≤ a) (ha' : a ≤ 9223372036854775807) : -9223372036854775808 ≤ rst a b ∧ rst a b ≤ 9223372036854775807 := by
  unfold rst
  split
  · omega
  · have h : (a.tmod b).natAbs = a.natAbs % b.natAbs := Int.natAbs_tmod a b
    have h2 : a.natAbs % b.natAbs ≤ a.natAbs := Nat.mod_le _ _
    by_cases h3 : 0 ≤ a
    · have := Int.tmod_nonneg (a := a) b h3; omega
    · have := Int.tmod_nonneg (a := -a) b (by omega); rw [Int.neg_tmod] at this; omega
theorem rst_sign (a b : Int) : (0 ≤ a → 0 ≤ rst a b) ∧ (a ≤ 0 → rst a b ≤ 0) := by
  unfold rst
  split
  · omega
  · refine ⟨fun h => Int.tmod_nonneg b h, fun h => ?_⟩
    have := Int.tmod_nonneg (a := -a) b (by omega); rw [Int.neg_tmod] at this; omega
theorem back_any (a b : Int) (hb : b ≠ 0) (hab : ¬ (b = -1 ∧ a = -9223372036854775808)) (ha : -9223372036854775808 ≤ a) (ha' : a ≤ 9223372036854775807) : sat (sat (quo a b * b) + rst a b) = a := by
  rw [quo, rst, if_neg hb, if_neg hb]
  have hq : -9223372036854775808 ≤ a.tdiv b ∧ a.tdiv b ≤ 9223372036854775807 := by
    by_cases h : b = -1
    · subst h; simp; omega
    · exact tdiv_bounds a b hb h ha ha'
  rw [sat_in hq.1 hq.2]
  have h := Int.mul_tdiv_add_tmod a b
  have h2 : (a.tmod b).natAbs = a.natAbs % b.natAbs := Int.natAbs_tmod a b
  have h3 : a.natAbs % b.natAbs ≤ a.natAbs := Nat.mod_le _ _
  rw [Int.mul_comm] at h
  have h4 : -9223372036854775808 ≤ a.tdiv b * b ∧ a.tdiv b * b ≤ 9223372036854775807 := by
    by_cases h5 : 0 ≤ a
    · have := Int.tmod_nonneg (a := a) b h5; omega
    · have := Int.tmod_nonneg (a := -a) b (by omega); rw [Int.neg_tmod] at this; omega
  rw [sat_in h4.1 h4.2, h, sat_in ha ha']
/-- The size of the divisor as the statement reckons it. -/
def dsize (b : Int) : Int := clampV (sat (-b)) b 9223372036854775807
theorem dsize_eq (b : Int) (hb : -9223372036854775808 ≤ b) (hb' : b ≤ 9223372036854775807) : dsize b = if b = -9223372036854775808 then 9223372036854775807 else (b.natAbs : Int) := by
  unfold dsize
  by_cases h : b = -9223372036854775808
  · subst h; decide
  · rw [if_neg h, sat_in (by omega) (by omega)]
    unfold clampV
    by_cases h2 : -b < b
    · rw [if_pos h2]; omega
    · rw [if_neg h2, if_neg (by omega)]; omega
theorem rst_lt (a b : Int) (hb : b ≠ 0) (h1 : -9223372036854775808 ≤ b) (h2 : b ≤ 9223372036854775807) (hd : ¬ dsize b = 9223372036854775807) : rst a b < dsize b ∧ sat (-(rst a b)) < dsize b := by
  have e := dsize_eq b h1 h2
  rw [rst, if_neg hb]
  have h3 : (a.tmod b).natAbs = a.natAbs % b.natAbs := Int.natAbs_tmod a b
  have h4 : a.natAbs % b.natAbs < b.natAbs := Nat.mod_lt _ (by omega)
  have h5 : b ≠ -9223372036854775808 := by
    rintro rfl
    exact hd (by rw [e, if_pos rfl])
  rw [if_neg h5] at e
  rw [e]
  refine ⟨by omega, ?_⟩
  rw [sat_in] <;> omega

set_option maxHeartbeats 1000000 in
theorem rests_zero (a : Int) (ha : -9223372036854775808 ≤ a) (ha' : a ≤ 9223372036854775807) (w : World) (hp : Pow10 w) :
    Calls Tryd.prog 7 #[.int .i64 a, .int .i64 0] w (RetB (.bool true) w) := by
  have H := Lib.hid hp
  clear hp
  go_enter Tryd.func7, Tryd.ntmps7
  go_wp2_with fail
  refine (awake_any _ H.out).mono ?_; rintro e w1 ⟨rfl, h1⟩
  go_wp2_with fail
  refine (div_any a 0 ha ha' (by omega) (by omega) _).mono ?_; rintro e w' ⟨rfl, rfl⟩
  go_wp2_with fail
  refine (mod_any a 0 (by omega) (by omega) _).mono ?_; rintro e w' ⟨rfl, rfl⟩
  rw [show quo a 0 = 0 from rfl, show zeroErr 0 = 10 from rfl, show rst a 0 = 0 from rfl]
  go_wp2_with fail
  go_ret
  exact ⟨rfl, h1⟩
set_option maxHeartbeats 1000000 in
theorem rests_end (w : World) (hp : Pow10 w) :
    Calls Tryd.prog 7 #[.int .i64 (-9223372036854775808), .int .i64 (-1)] w (RetB (.bool true) w) := by
  have H := Lib.hid hp
  clear hp
  go_enter Tryd.func7, Tryd.ntmps7
  go_wp2_with fail
  refine (awake_any _ H.out).mono ?_; rintro e w1 ⟨rfl, h1⟩
  go_wp2_with fail
  refine (div_any _ _ (by omega) (by omega) (by omega) (by omega) _).mono ?_; rintro e w' ⟨rfl, rfl⟩
  go_wp2_with fail
  refine (mod_any _ _ (by omega) (by omega) _).mono ?_; rintro e w' ⟨rfl, rfl⟩
  rw [show quo (-9223372036854775808) (-1) = 9223372036854775807 by decide +kernel, show zeroErr (-1) = 0 from rfl, show rst (-9223372036854775808) (-1) = 0 by decide +kernel]
  go_wp2_with fail
  go_ret
  exact ⟨rfl, h1⟩
set_option maxHeartbeats 1000000 in
theorem rests_rest (a b : Int) (ha : -9223372036854775808 ≤ a) (ha' : a ≤ 9223372036854775807) (hb : -9223372036854775808 ≤ b) (hb' : b ≤ 9223372036854775807) (h0 : b ≠ 0)
    (hab : (b == -1) = false ∨ (b == -1) = true ∧ (a == -9223372036854775808) = false) (w : World) (hp : Pow10 w) :
    Calls Tryd.prog 7 #[.int .i64 a, .int .i64 b] w (RetB (.bool true) w) := by
  have H := Lib.hid hp
  clear hp
  have e0 : (b == 0) = false := by simpa using h0
  have qb := quo_bounds a b
  have rb := rst_bounds a b ha ha'
  obtain ⟨r1, r2⟩ := rst_sign a b
  have E := Lib.hid (back_any a b h0 (by rcases hab with h | ⟨h, h'⟩ <;> simp_all) ha ha')
  have R1 := Lib.hid (rst_lt a b h0 hb hb')
  have z := Lib.hid (zeroErr_not h0)
  have sb := sat_bounds (quo a b * b)
  have nb := sat_bounds (-b)
  rcases hab with hab | ⟨hab, hab'⟩
  all_goals
    have hsg : (decide (rst a b < 0) = true ∧ decide (0 ≤ a) = false ∧ decide (0 < rst a b) = false) ∨ (decide (rst a b < 0) = false ∧ decide (0 < rst a b) = false) ∨ (decide (rst a b < 0) = false ∧ decide (0 < rst a b) = true ∧ decide (a ≤ 0) = false) := by
      rcases Int.lt_trichotomy a 0 with hs | hs | hs <;> rcases Int.lt_trichotomy (rst a b) 0 with hr | hr | hr <;> simp <;> omega
    clear r1 r2
    rcases hsg with ⟨hs, hs', hr⟩ | ⟨hs, hr⟩ | ⟨hs, hr, hr'⟩
    all_goals
        (
         go_enter Tryd.func7, Tryd.ntmps7
         go_wp2_with fail
         refine (awake_any _ H.out).mono ?_; rintro e w1 ⟨rfl, h1⟩
         go_wp2_with fail
         refine (div_any a b ha ha' hb hb' _).mono ?_; rintro e w' ⟨rfl, rfl⟩
         rw [z.out]
         go_wp2_with fail
         refine (mod_any a b hb hb' _).mono ?_; rintro e w' ⟨rfl, rfl⟩
         rw [z.out]
         go_wp2_with fail
         refine (neg_any b hb hb' _).mono ?_; rintro e w' ⟨rfl, rfl⟩
         go_wp2_with fail
         refine (clamp_any _ _ _ _).mono ?_; rintro e w' ⟨rfl, rfl⟩
         rw [← show dsize b = clampV (sat (-b)) b 9223372036854775807 from rfl]
         go_wp2_with fail
         refine (mul_any _ b qb.1 qb.2 hb hb' _).mono ?_; rintro e w' ⟨rfl, rfl⟩
         go_wp2_with fail
         refine (add_any _ _ sb.1 sb.2 rb.1 rb.2 _).mono ?_; rintro e w' ⟨rfl, rfl⟩
         rw [E.out]
         by_cases hd : dsize b = 9223372036854775807
         · rw [hd]
           go_wp2_with fail
           go_ret
           exact ⟨rfl, h1⟩
         · have hd' : (dsize b == 9223372036854775807) = false := by simpa using hd
           obtain ⟨l1, l2⟩ := R1.out hd
           clear hd
           go_wp2_with fail
           refine (neg_any _ rb.1 rb.2 _).mono ?_; rintro e w' ⟨rfl, rfl⟩
           go_wp2_with fail
           go_ret
           exact ⟨rfl, h1⟩)
theorem rests_law (a b : Int) (ha : -9223372036854775808 ≤ a) (ha' : a ≤ 9223372036854775807) (hb : -9223372036854775808 ≤ b) (hb' : b ≤ 9223372036854775807) (w : World) (hp : Pow10 w) :
    Calls Tryd.prog 7 #[.int .i64 a, .int .i64 b] w (RetB (.bool true) w) := by
  by_cases h0 : b = 0
  · subst h0; exact rests_zero a ha ha' w hp
  by_cases h1 : b = -1
  · by_cases h2 : a = -9223372036854775808
    · subst h1; subst h2; exact rests_end w hp
    · exact rests_rest a b ha ha' hb hb' h0 (.inr ⟨by simpa using h1, by simpa using h2⟩) w hp
  · exact rests_rest a b ha ha' hb hb' h0 (.inl (by simpa using h1)) w hp
end Go.Proofs.YthaapajmpgnadaaDoor
