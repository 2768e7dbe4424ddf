/- The functions of package whole, walked: sums, differences, products, quotients. -/
import Derived.Test.YthaapajmpgnadaaDoorBase
import Derived.Test.YthaapajmpgnadaaDoorWholeP
namespace Go.Proofs.YthaapajmpgnadaaDoor
open Go.RowKit

set_option maxHeartbeats 400000 in
theorem add_any (a b : Int) (ha : -9223372036854775808 ≤ a) (ha' : a ≤ 9223372036854775807) (hb : -9223372036854775808 ≤ b) (hb' : b ≤ 9223372036854775807) (w : World) :
    Calls Tryd.prog 19 #[.int .i64 a, .int .i64 b] w (Ret (.int .i64 (sat (a + b))) w) := by
  go_enter Tryd.func19, Tryd.ntmps19
  go_wp2
  all_goals go_ret
  all_goals exact ⟨ret_int (by unfold sat; omega), rfl⟩

set_option maxHeartbeats 400000 in
theorem sub_any (a b : Int) (ha : -9223372036854775808 ≤ a) (ha' : a ≤ 9223372036854775807) (hb : -9223372036854775808 ≤ b) (hb' : b ≤ 9223372036854775807) (w : World) :
    Calls Tryd.prog 21 #[.int .i64 a, .int .i64 b] w (Ret (.int .i64 (sat (a - b))) w) := by
  go_enter Tryd.func21, Tryd.ntmps21
  go_wp2
  all_goals go_ret
  all_goals exact ⟨ret_int (by unfold sat; omega), rfl⟩

theorem neg_any (a : Int) (ha : -9223372036854775808 ≤ a) (ha' : a ≤ 9223372036854775807) (w : World) :
    Calls Tryd.prog 25 #[.int .i64 a] w (Ret (.int .i64 (sat (-a))) w) := by
  go_enter Tryd.func25, Tryd.ntmps25
  go_wp2_with (go_at_call 21; refine (sub_any _ _ (by omega) (by omega) (by omega) (by omega) _).mono ?_; rintro e w' ⟨rfl, rfl⟩)
  go_ret
  exact ⟨rfl, rfl⟩

theorem end_any (b : Bool) (w : World) :
    Calls Tryd.prog 40 #[.bool b] w (Ret (.int .i64 (endOf b)) w) := by
  cases b
  all_goals
    go_enter Tryd.func40, Tryd.ntmps40
    go_wp2
    go_ret
    exact ⟨rfl, rfl⟩

theorem mul_zero_left (b : Int) (w : World) : Calls Tryd.prog 20 #[.int .i64 0, .int .i64 b] w (Ret (.int .i64 0) w) := by
  go_enter Tryd.func20, Tryd.ntmps20
  go_wp2_with fail
  go_ret
  exact ⟨rfl, rfl⟩
theorem mul_zero_right (a : Int) (w : World) : Calls Tryd.prog 20 #[.int .i64 a, .int .i64 0] w (Ret (.int .i64 0) w) := by
  by_cases h : (a == 0) = true
  all_goals
    go_enter Tryd.func20, Tryd.ntmps20
    go_wp2_with fail
    go_ret
    exact ⟨rfl, rfl⟩
theorem mul_great (w : World) : Calls Tryd.prog 20 #[.int .i64 (-9223372036854775808), .int .i64 (-1)] w (Ret (.int .i64 9223372036854775807) w) := by
  go_enter Tryd.func20, Tryd.ntmps20
  go_wp2_with fail
  go_ret
  exact ⟨rfl, rfl⟩
theorem mul_great' (w : World) : Calls Tryd.prog 20 #[.int .i64 (-1), .int .i64 (-9223372036854775808)] w (Ret (.int .i64 9223372036854775807) w) := by
  go_enter Tryd.func20, Tryd.ntmps20
  go_wp2_with fail
  go_ret
  exact ⟨rfl, rfl⟩
set_option maxHeartbeats 400000 in
theorem mul_rest (a b : Int) (ha : a ≠ 0) (hb : b ≠ 0) (h1 : a ≠ -9223372036854775808) (h2 : b ≠ -9223372036854775808) (w : World) :
    Calls Tryd.prog 20 #[.int .i64 a, .int .i64 b] w (Ret (.int .i64 (mulCode a b)) w) := by
  have e1 : (a == 0) = false := by simpa using ha
  have e2 : (b == 0) = false := by simpa using hb
  have e3 : (a == -9223372036854775808) = false := by simpa using h1
  have e4 : (b == -9223372036854775808) = false := by simpa using h2
  go_enter Tryd.func20, Tryd.ntmps20
  go_wp2_with (go_at_call 40; refine (end_any _ _).mono ?_; rintro e w' ⟨rfl, rfl⟩)
  all_goals go_ret
  · have h : (wrap64 ((wrap64 (a * b)).tdiv b) == a) = true := by first | assumption | (simp only [Int.tdiv_neg]; assumption)
    exact ⟨ret_int (by rw [mulCode, if_pos (by simpa using h)]), rfl⟩
  · have h : (wrap64 ((wrap64 (a * b)).tdiv b) == a) = false := by first | assumption | (simp only [Int.tdiv_neg]; assumption)
    exact ⟨ret_int (by rw [mulCode, if_neg (by simpa using h)] <;> simp), rfl⟩
set_option maxHeartbeats 400000 in
theorem mul_left (b : Int) (hb : b ≠ 0) (h1 : b ≠ -1) (h2 : b ≠ -9223372036854775808) (w : World) :
    Calls Tryd.prog 20 #[.int .i64 (-9223372036854775808), .int .i64 b] w (Ret (.int .i64 (mulCode (-9223372036854775808) b)) w) := by
  have e2 : (b == 0) = false := by simpa using hb
  have e3 : (b == -1) = false := by simpa using h1
  have e4 : (b == -9223372036854775808) = false := by simpa using h2
  go_enter Tryd.func20, Tryd.ntmps20
  go_wp2_with (go_at_call 40; refine (end_any _ _).mono ?_; rintro e w' ⟨rfl, rfl⟩)
  all_goals go_ret
  · have h : (wrap64 ((wrap64 ((-9223372036854775808) * b)).tdiv b) == (-9223372036854775808)) = true := by first | assumption | (simp only [Int.tdiv_neg]; assumption)
    exact ⟨ret_int (by rw [mulCode, if_pos (by simpa using h)]), rfl⟩
  · have h : (wrap64 ((wrap64 ((-9223372036854775808) * b)).tdiv b) == (-9223372036854775808)) = false := by first | assumption | (simp only [Int.tdiv_neg]; assumption)
    exact ⟨ret_int (by rw [mulCode, if_neg (by simpa using h)] <;> simp), rfl⟩
set_option maxHeartbeats 400000 in
theorem mul_right (a : Int) (ha : a ≠ 0) (h1 : a ≠ -1) (h2 : a ≠ -9223372036854775808) (w : World) :
    Calls Tryd.prog 20 #[.int .i64 a, .int .i64 (-9223372036854775808)] w (Ret (.int .i64 (mulCode a (-9223372036854775808))) w) := by
  have e2 : (a == 0) = false := by simpa using ha
  have e3 : (a == -1) = false := by simpa using h1
  have e4 : (a == -9223372036854775808) = false := by simpa using h2
  go_enter Tryd.func20, Tryd.ntmps20
  go_wp2_with (go_at_call 40; refine (end_any _ _).mono ?_; rintro e w' ⟨rfl, rfl⟩)
  all_goals go_ret
  · have h : (wrap64 ((wrap64 (a * (-9223372036854775808))).tdiv (-9223372036854775808)) == a) = true := by first | assumption | (simp only [Int.tdiv_neg]; assumption)
    exact ⟨ret_int (by rw [mulCode, if_pos (by simpa using h)]), rfl⟩
  · have h : (wrap64 ((wrap64 (a * (-9223372036854775808))).tdiv (-9223372036854775808)) == a) = false := by first | assumption | (simp only [Int.tdiv_neg]; assumption)
    exact ⟨ret_int (by rw [mulCode, if_neg (by simpa using h)] <;> simp), rfl⟩
theorem mul_ends (w : World) :
    Calls Tryd.prog 20 #[.int .i64 (-9223372036854775808), .int .i64 (-9223372036854775808)] w (Ret (.int .i64 9223372036854775807) w) := by
  have e : (wrap64 (-(wrap64 85070591730234615865843651857942052864).tdiv 9223372036854775808) == -9223372036854775808) = false := by decide +kernel
  go_enter Tryd.func20, Tryd.ntmps20
  go_wp2_with (go_at_call 40; refine (end_any _ _).mono ?_; rintro e w' ⟨rfl, rfl⟩)
  go_ret
  exact ⟨rfl, rfl⟩
theorem mul_any (a b : Int) (ha : -9223372036854775808 ≤ a) (ha' : a ≤ 9223372036854775807) (hb : -9223372036854775808 ≤ b) (hb' : b ≤ 9223372036854775807) (w : World) :
    Calls Tryd.prog 20 #[.int .i64 a, .int .i64 b] w (Ret (.int .i64 (sat (a * b))) w) := by
  by_cases h0 : a = 0
  · subst h0; rw [Int.zero_mul]; exact mul_zero_left b w
  by_cases h0' : b = 0
  · subst h0'; rw [Int.mul_zero]; exact mul_zero_right a w
  by_cases h1 : a = -9223372036854775808 ∧ b = -1
  · obtain ⟨rfl, rfl⟩ := h1; exact mul_great w
  by_cases h2 : b = -9223372036854775808 ∧ a = -1
  · obtain ⟨rfl, rfl⟩ := h2; exact mul_great' w
  by_cases h3 : a = -9223372036854775808
  · subst h3
    by_cases h4 : b = -9223372036854775808
    · subst h4; exact mul_ends w
    · rw [← mulCode_eq _ b h0 h0' h1 ha ha' hb hb']
      exact mul_left b h0' (fun h => h1 ⟨rfl, h⟩) h4 w
  · rw [← mulCode_eq a b h0 h0' h1 ha ha' hb hb']
    by_cases h4 : b = -9223372036854775808
    · subst h4
      exact mul_right a h0 (fun h => h2 ⟨rfl, h⟩) h3 w
    · exact mul_rest a b h0 h0' h3 h4 w

set_option maxHeartbeats 400000 in
theorem div_any (a b : Int) (ha : -9223372036854775808 ≤ a) (ha' : a ≤ 9223372036854775807) (hb : -9223372036854775808 ≤ b) (hb' : b ≤ 9223372036854775807) (w : World) :
    Calls Tryd.prog 27 #[.int .i64 a, .int .i64 b] w (Ret (.tuple #[.int .i64 (quo a b), .int .i64 (zeroErr b)]) w) := by
  by_cases h0 : b = 0
  · subst h0
    go_enter Tryd.func27, Tryd.ntmps27
    go_wp2_with fail
    go_ret2
    exact ⟨rfl, rfl⟩
  · by_cases h1 : b = -1
    · subst h1
      go_enter Tryd.func27, Tryd.ntmps27
      go_wp2_with (go_at_call 25; refine (neg_any _ (by omega) (by omega) _).mono ?_; rintro e w' ⟨rfl, rfl⟩)
      go_ret2
      exact ⟨ret_tup2 (int_eq (quo_neg a).symm) rfl, rfl⟩
    · have e1 : (b == 0) = false := by simpa using h0
      have e2 : (b == -1) = false := by simpa using h1
      go_enter Tryd.func27, Tryd.ntmps27
      go_wp2_with fail
      go_ret2
      exact ⟨ret_tup2 (int_eq (quo_in a b h0 h1 ha ha')) (int_eq (zeroErr_not h0).symm), rfl⟩

set_option maxHeartbeats 400000 in
theorem mod_any (a b : Int) (hb : -9223372036854775808 ≤ b) (hb' : b ≤ 9223372036854775807) (w : World) :
    Calls Tryd.prog 28 #[.int .i64 a, .int .i64 b] w (Ret (.tuple #[.int .i64 (rst a b), .int .i64 (zeroErr b)]) w) := by
  by_cases h0 : b = 0
  · subst h0
    go_enter Tryd.func28, Tryd.ntmps28
    go_wp2_with fail
    go_ret2
    exact ⟨rfl, rfl⟩
  · by_cases h1 : b = -1
    · subst h1
      go_enter Tryd.func28, Tryd.ntmps28
      go_wp2_with fail
      go_ret2
      exact ⟨ret_tup2 (int_eq (rst_neg a).symm) rfl, rfl⟩
    · have e1 : (b == 0) = false := by simpa using h0
      have e2 : (b == -1) = false := by simpa using h1
      go_enter Tryd.func28, Tryd.ntmps28
      go_wp2_with fail
      go_ret2
      exact ⟨ret_tup2 (int_eq (rst_in a b h0).symm) (int_eq (zeroErr_not h0).symm), rfl⟩

set_option maxHeartbeats 400000 in
theorem shift_any (a n : Int) (ha : -9223372036854775808 ≤ a) (ha' : a ≤ 9223372036854775807) (hb : -9223372036854775808 ≤ n) (hb' : n ≤ 9223372036854775807) (w : World) :
    Calls Tryd.prog 31 #[.int .i64 a, .int .i64 n] w (Ret (.int .i64 (shl a n)) w) := by
  go_enter Tryd.func31, Tryd.ntmps31
  go_wp2_with (go_at_call 40; refine (end_any _ _).mono ?_; rintro e w' ⟨rfl, rfl⟩)
  · go_ret
    exact ⟨ret_int (shl_low a n (by assumption) ha ha').symm, rfl⟩
  · go_ret
    have h : (a == 0) = true := by assumption
    obtain rfl : a = 0 := by simpa using h
    exact ⟨ret_int (shl_zero n).symm, rfl⟩
  · go_ret
    have h : (a == 0) = false := by assumption
    exact ⟨ret_int (shl_over a n (.inr (by assumption)) (by simpa using h)).symm, rfl⟩
  · go_ret
    have h : (a == 0) = false := by assumption
    have h' : (wrap64 (a * 2 ^ n.toNat) / 2 ^ n.toNat != a) = true := by assumption
    exact ⟨ret_int (shl_over a n (.inl (by simpa using h')) (by simpa using h)).symm, rfl⟩
  · go_ret
    have h' : (wrap64 (a * 2 ^ n.toNat) / 2 ^ n.toNat != a) = false := by assumption
    exact ⟨ret_int (shl_fits a n (by simpa using h') (by assumption)).symm, rfl⟩
end Go.Proofs.YthaapajmpgnadaaDoor
