/- The reference's sums and differences, walked. -/
import Derived.Test.YthaapajmpgnadaaDoorWholeR
import Derived.Test.YthaapajmpgnadaaDoorWholeM
import Derived.Deep.RegionHeld3
namespace Go.Proofs.YthaapajmpgnadaaDoor
open Go.RowKit
theorem size_bounds (a : Int) (ha : -9223372036854775808 ≤ a) (ha' : a ≤ 9223372036854775807) : 0 ≤ size a ∧ size a ≤ 9223372036854775808 := by unfold size; omega
theorem radd_any (a b : Int) (ha : -9223372036854775808 ≤ a) (ha' : a ≤ 9223372036854775807) (hb : -9223372036854775808 ≤ b) (hb' : b ≤ 9223372036854775807) (w : World) :
    Calls Tryd.prog 22 #[.int .i64 a, .int .i64 b] w (RetB (.int .i64 (sat (a + b))) w) := by
  obtain ⟨sa, sa'⟩ := size_bounds a ha ha'
  obtain ⟨sb, sb'⟩ := size_bounds b hb hb'
  obtain ⟨t1, t2, t3, t4⟩ := sum_bounds (lt0 a) (size a) (lt0 b) (size b) sa sb (by omega) (by omega)
  have E := Lib.hid (show sat (wv (sumB (lt0 a) (size a) (lt0 b) (size b)) (sumHi (lt0 a) (size a) (lt0 b) (size b)) (sumLo (lt0 a) (size a) (lt0 b) (size b))) = sat (a + b) by rw [sum_wv _ _ _ _ sa sb, wv_of, wv_of])
  go_enter Tryd.func22, Tryd.ntmps22
  go_wp2_with fail
  refine (of_any a ha ha' _).mono ?_; rintro e w1 ⟨rfl, h1⟩
  go_wp2_with fail
  refine (of_any b hb hb' _).mono ?_; rintro e w2 ⟨rfl, h2⟩
  go_wp2_with fail
  refine (sum_any _ _ _ _ (by omega) (by omega) (by omega) (by omega) _).mono ?_; rintro e w3 ⟨rfl, h3⟩
  go_wp2_with fail
  refine (held_any _ _ _ (by omega) (by omega) (by omega) (by omega) _).mono ?_; rintro e w4 ⟨rfl, h4⟩
  go_wp2_with fail
  go_ret
  exact ⟨ret_int E.out, bthen (bthen (bthen h1 h2) h3) h4⟩

theorem rsub_any (a b : Int) (ha : -9223372036854775808 ≤ a) (ha' : a ≤ 9223372036854775807) (hb : -9223372036854775808 ≤ b) (hb' : b ≤ 9223372036854775807) (w : World) :
    Calls Tryd.prog 23 #[.int .i64 a, .int .i64 b] w (RetB (.int .i64 (sat (a - b))) w) := by
  obtain ⟨sa, sa'⟩ := size_bounds a ha ha'
  obtain ⟨sb, sb'⟩ := size_bounds b hb hb'
  obtain ⟨t1, t2, t3, t4⟩ := sum_bounds (lt0 a) (size a) (!lt0 b) (size b) sa sb (by omega) (by omega)
  have E := Lib.hid (show sat (wv (sumB (lt0 a) (size a) (!lt0 b) (size b)) (sumHi (lt0 a) (size a) (!lt0 b) (size b)) (sumLo (lt0 a) (size a) (!lt0 b) (size b))) = sat (a - b) by rw [sum_wv _ _ _ _ sa sb, wv_not, wv_of, wv_of]; rfl)
  go_enter Tryd.func23, Tryd.ntmps23
  go_wp2_with fail
  refine (of_any b hb hb' _).mono ?_; rintro e w1 ⟨rfl, h1⟩
  go_wp2_with fail
  go_region_held3 (fun w' => w'.cell? ⟨w1.heap.size, 0, none⟩ = some (.bool (!lt0 b)) ∧ w'.cell? ⟨w1.heap.size, 1, none⟩ = some (.int .u64 0) ∧ w'.cell? ⟨w1.heap.size, 2, none⟩ = some (.int .u64 (size b)))
    (go_keep) (first | (go_at_call 43; refine (of_any a ha ha' _).mono ?_; rintro e w2 ⟨rfl, h2⟩; have c2 := (bcell h2).1; have s2 : w1.heap.size < w2.heap.size := szlt h2 (by simp)) | (go_at_call 42; refine (sum_any _ _ _ _ (by omega) (by omega) (by omega) (by omega) _).mono ?_; rintro e w3 ⟨rfl, h3⟩; have c3 := (bcell h3).1; have s3 : w1.heap.size < w3.heap.size := szlt h3 s2) | (go_at_call 41; refine (held_any _ _ _ (by omega) (by omega) (by omega) (by omega) _).mono ?_; rintro e w4 ⟨rfl, h4⟩; have c4 := (bcell h4).1))
  go_wp2_with fail
  go_ret
  exact ⟨ret_int E.out, bthen (bthen (bthen (h1.alloc h1.size _).drew h2) h3) h4⟩
theorem rneg_any (a : Int) (ha : -9223372036854775808 ≤ a) (ha' : a ≤ 9223372036854775807) (w : World) :
    Calls Tryd.prog 26 #[.int .i64 a] w (RetB (.int .i64 (sat (-a))) w) := by
  go_enter Tryd.func26, Tryd.ntmps26
  go_wp2_with fail
  refine (rsub_any 0 a (by omega) (by omega) ha ha' _).mono ?_; rintro e w1 ⟨rfl, h⟩
  rw [Int.zero_sub]
  go_wp2_with fail
  go_ret
  exact ⟨rfl, h⟩

theorem rdiv_zero (a : Int) (w : World) :
    Calls Tryd.prog 29 #[.int .i64 a, .int .i64 0] w (RetB (.tuple #[.int .i64 (quo a 0), .int .i64 (zeroErr 0)]) w) := by
  go_enter Tryd.func29, Tryd.ntmps29
  go_wp2_with fail
  go_ret2
  exact ⟨rfl, Below.refl _ _⟩
set_option maxHeartbeats 1000000 in
theorem rdiv_rest (a b : Int) (ha : -9223372036854775808 ≤ a) (ha' : a ≤ 9223372036854775807) (hb : -9223372036854775808 ≤ b) (hb' : b ≤ 9223372036854775807) (h0 : b ≠ 0) (w : World) :
    Calls Tryd.prog 29 #[.int .i64 a, .int .i64 b] w (RetB (.tuple #[.int .i64 (quo a b), .int .i64 (zeroErr b)]) w) := by
  obtain ⟨sa, sa'⟩ := size_bounds a ha ha'
  obtain ⟨sb, sb'⟩ := size_bounds b hb hb'
  have e2 : (b == 0) = false := by simpa using h0
  have sb0 : 1 ≤ size b := by unfold size; omega
  have sbn : ¬ size b = 0 := by omega
  have eq : IntKind.u64.wrap ((size a).tdiv (size b)) = size a / size b := by
    have h1 := Int.ediv_nonneg sa sb
    have h2 := Int.le_trans (Int.ediv_le_self (size b) sa) sa'
    rw [Int.tdiv_eq_ediv_of_nonneg sa, IntKind.wrap_u64]; omega
  have E := Lib.hid (wv_quo a b h0)
  have q0 : 0 ≤ size a / size b := by first | exact Int.ediv_nonneg sa sb | exact Int.emod_nonneg _ (by omega)
  have q1 : size a / size b ≤ 9223372036854775808 := by first | exact Int.le_trans (Int.ediv_le_self _ sa) sa' | exact Int.le_trans (Int.emod_le_of_nonneg _ sa) sa' | exact Int.le_trans (Int.le_of_lt (Int.emod_lt_of_pos _ (by omega))) sb'
  go_enter Tryd.func29, Tryd.ntmps29
  go_wp2_with fail
  refine (of_any a ha ha' _).mono ?_; rintro e w1 ⟨rfl, h1⟩
  go_wp2_with fail
  refine (of_any b hb hb' _).mono ?_; rintro e w2 ⟨rfl, h2⟩
  have c2 := (bcell h2).1
  have s2 : w1.heap.size < w2.heap.size := szlt h2 (by simp)
  have s2' : w1.heap.size < w2.heap.size + 1 := by omega
  go_wp2_with fail
  go_region_held3 (fun w' => w'.cell? ⟨w1.heap.size, 0, none⟩ = some (.bool (lt0 a)) ∧ w'.cell? ⟨w1.heap.size, 2, none⟩ = some (.int .u64 (size a)) ∧ w'.cell? ⟨w2.heap.size, 0, none⟩ = some (.bool (lt0 b)) ∧ w'.cell? ⟨w2.heap.size, 2, none⟩ = some (.int .u64 (size b)))
    (go_keep) (first | (go_at_call 41; refine (held_any _ _ _ (by omega) (by omega) (by omega) (by omega) _).mono ?_; rintro e w3 ⟨rfl, h3⟩; have c3 := (bcell h3).1))
  go_wp2_with fail
  go_ret2
  have hy := bthen (h1.alloc h1.size _) h2
  exact ⟨ret_tup2 (int_eq E.out) (int_eq (zeroErr_not h0).symm), bthen (hy.alloc hy.size _).drew h3⟩
theorem rdiv_any (a b : Int) (ha : -9223372036854775808 ≤ a) (ha' : a ≤ 9223372036854775807) (hb : -9223372036854775808 ≤ b) (hb' : b ≤ 9223372036854775807) (w : World) :
    Calls Tryd.prog 29 #[.int .i64 a, .int .i64 b] w (RetB (.tuple #[.int .i64 (quo a b), .int .i64 (zeroErr b)]) w) := by
  by_cases h : b = 0
  · subst h; exact rdiv_zero a w
  · exact rdiv_rest a b ha ha' hb hb' h w
theorem rmod_zero (a : Int) (w : World) :
    Calls Tryd.prog 30 #[.int .i64 a, .int .i64 0] w (RetB (.tuple #[.int .i64 (rst a 0), .int .i64 (zeroErr 0)]) w) := by
  go_enter Tryd.func30, Tryd.ntmps30
  go_wp2_with fail
  go_ret2
  exact ⟨rfl, Below.refl _ _⟩
set_option maxHeartbeats 1000000 in
theorem rmod_rest (a b : Int) (ha : -9223372036854775808 ≤ a) (ha' : a ≤ 9223372036854775807) (hb : -9223372036854775808 ≤ b) (hb' : b ≤ 9223372036854775807) (h0 : b ≠ 0) (w : World) :
    Calls Tryd.prog 30 #[.int .i64 a, .int .i64 b] w (RetB (.tuple #[.int .i64 (rst a b), .int .i64 (zeroErr b)]) w) := by
  obtain ⟨sa, sa'⟩ := size_bounds a ha ha'
  obtain ⟨sb, sb'⟩ := size_bounds b hb hb'
  have e2 : (b == 0) = false := by simpa using h0
  have sb0 : 1 ≤ size b := by unfold size; omega
  have sbn : ¬ size b = 0 := by omega
  have eq : (size a).tmod (size b) = size a % size b := Int.tmod_eq_emod_of_nonneg sa
  have E := Lib.hid (wv_rst a b h0 ha ha')
  have q0 : 0 ≤ size a % size b := by first | exact Int.ediv_nonneg sa sb | exact Int.emod_nonneg _ (by omega)
  have q1 : size a % size b ≤ 9223372036854775808 := by first | exact Int.le_trans (Int.ediv_le_self _ sa) sa' | exact Int.le_trans (Int.emod_le_of_nonneg _ sa) sa' | exact Int.le_trans (Int.le_of_lt (Int.emod_lt_of_pos _ (by omega))) sb'
  go_enter Tryd.func30, Tryd.ntmps30
  go_wp2_with fail
  refine (of_any a ha ha' _).mono ?_; rintro e w1 ⟨rfl, h1⟩
  go_wp2_with fail
  refine (of_any b hb hb' _).mono ?_; rintro e w2 ⟨rfl, h2⟩
  have c2 := (bcell h2).1
  have s2 : w1.heap.size < w2.heap.size := szlt h2 (by simp)
  have s2' : w1.heap.size < w2.heap.size + 1 := by omega
  go_wp2_with fail
  go_region_held3 (fun w' => w'.cell? ⟨w1.heap.size, 0, none⟩ = some (.bool (lt0 a)) ∧ w'.cell? ⟨w1.heap.size, 2, none⟩ = some (.int .u64 (size a)) ∧ w'.cell? ⟨w2.heap.size, 0, none⟩ = some (.bool (lt0 b)) ∧ w'.cell? ⟨w2.heap.size, 2, none⟩ = some (.int .u64 (size b)))
    (go_keep) (first | (go_at_call 41; refine (held_any _ _ _ (by omega) (by omega) (by omega) (by omega) _).mono ?_; rintro e w3 ⟨rfl, h3⟩; have c3 := (bcell h3).1))
  go_wp2_with fail
  go_ret2
  have hy := bthen (h1.alloc h1.size _) h2
  exact ⟨ret_tup2 (int_eq E.out) (int_eq (zeroErr_not h0).symm), bthen (hy.alloc hy.size _).drew h3⟩
theorem rmod_any (a b : Int) (ha : -9223372036854775808 ≤ a) (ha' : a ≤ 9223372036854775807) (hb : -9223372036854775808 ≤ b) (hb' : b ≤ 9223372036854775807) (w : World) :
    Calls Tryd.prog 30 #[.int .i64 a, .int .i64 b] w (RetB (.tuple #[.int .i64 (rst a b), .int .i64 (zeroErr b)]) w) := by
  by_cases h : b = 0
  · subst h; exact rmod_zero a w
  · exact rmod_rest a b ha ha' hb hb' h w
set_option maxHeartbeats 1000000 in
theorem rmul_any (a b : Int) (ha : -9223372036854775808 ≤ a) (ha' : a ≤ 9223372036854775807) (hb : -9223372036854775808 ≤ b) (hb' : b ≤ 9223372036854775807) (w : World) :
    Calls Tryd.prog 24 #[.int .i64 a, .int .i64 b] w (RetB (.int .i64 (sat (a * b))) w) := by
  obtain ⟨sa, sa'⟩ := size_bounds a ha ha'
  obtain ⟨sb, sb'⟩ := size_bounds b hb hb'
  go_enter Tryd.func24, Tryd.ntmps24
  go_wp2_with fail
  refine (of_any a ha ha' _).mono ?_; rintro e w1 ⟨rfl, h1⟩
  go_wp2_with fail
  refine (of_any b hb hb' _).mono ?_; rintro e w2 ⟨rfl, h2⟩
  have c2 := (bcell h2).1
  have s2 : w1.heap.size < w2.heap.size := szlt h2 (by simp)
  go_wp2_with fail
  go_loop [7, 8, 9, 10] (fun h l i _ => ∃ k : Nat, k ≤ 64 ∧ h = .int .u64 (mhi (size a) (size b) k) ∧ l = .int .u64 (mlo (size a) (size b) k) ∧ i = .int .i64 (63 - k)) (fun _ _ i _ => (intOf i + 1).toNat)
  case atStart => exact ⟨0, by omega, int_eq (by unfold mhi; rw [mulP_zero _ _ sb sb']; rfl), int_eq (by unfold mlo; rw [mulP_zero _ _ sb sb']; rfl), rfl⟩
  case round =>
    obtain ⟨k, hk, rfl, rfl, rfl⟩ := hrel
    obtain ⟨b1, b2, b3, b4⟩ := mhi_bounds (size a) (size b) k sa sa' sb sb'
    by_cases hlt : k < 64
    · go_wp2
      all_goals go_round
      case rel =>
        have t := bit_yes (k := k) sb sb' (by assumption)
        exact ⟨k + 1, by omega, int_eq (mul_round_hi hlt sa sa' sb sb' t (by assumption)), int_eq (mul_round_lo hlt t), by go_num⟩
      case measure => simp [intOf]; omega
      case rel =>
        have t := bit_yes (k := k) sb sb' (by assumption)
        exact ⟨k + 1, by omega, int_eq (mul_round_hi' hlt sa sa' sb sb' t (by assumption)), int_eq (mul_round_lo hlt t), by go_num⟩
      case measure => simp [intOf]; omega
      case rel =>
        have t := bit_no (k := k) sb sb' (by assumption)
        exact ⟨k + 1, by omega, int_eq (mul_skip_hi hlt sa sa' sb sb' t), int_eq (mul_skip_lo hlt t), by go_num⟩
      case measure => simp [intOf]; omega
    · have E := Lib.hid (show sat (wv (lt0 a != lt0 b) (mhi (size a) (size b) k) (mlo (size a) (size b) k)) = sat (a * b) by
        obtain rfl : k = 64 := by omega
        unfold mhi mlo; rw [mulP_end, wv_mul])
      obtain rfl : k = 64 := by omega
      generalize mhi (size a) (size b) 64 = x at *
      generalize mlo (size a) (size b) 64 = y at *
      have e0 : (63 : Int) - ((64 : Nat) : Int) = -1 := rfl
      rw [e0]
      clear hlt hk e0
      go_wp2_with fail
      refine (held_any _ _ _ b1 (by omega) b3 b4 _).mono ?_; rintro e w3 ⟨rfl, h3⟩
      go_wp2_with fail
      go_ret
      have hy := bthen (h1.alloc h1.size _) h2
      exact ⟨ret_int E.out, bthen (hy.alloc hy.size _) h3⟩

theorem rshift_any (a n : Int) (ha : -9223372036854775808 ≤ a) (ha' : a ≤ 9223372036854775807) (hb : -9223372036854775808 ≤ n) (hb' : n ≤ 9223372036854775807) (w : World) :
    Calls Tryd.prog 32 #[.int .i64 a, .int .i64 n] w (RetB (.int .i64 (shl a n)) w) := by
  go_enter Tryd.func32, Tryd.ntmps32
  go_wp2_with fail
  go_loopw [0, 5] (fun x i wr => ∃ k : Nat, (k : Int) ≤ 64 ∧ ((k : Int) ≤ n ∨ k = 0) ∧ x = .int .i64 (shl a k) ∧ i = .int .i64 k ∧ Below w.heap.size w wr) (fun _ i _ => (64 - intOf i).toNat)
  case atStart => exact ⟨0, by omega, .inr rfl, int_eq (shl_low a 0 (by omega) ha ha').symm, rfl, Below.refl _ _⟩
  case round =>
    obtain ⟨k, hk, hn, rfl, rfl, hb⟩ := hrel
    have hs := shl_bounds a k
    by_cases h1 : (k : Int) < n
    · by_cases h2 : (k : Int) < 64
      · have E := Lib.hid (shl_twice a k)
        go_wp2_with (go_at_call 22; refine (radd_any _ _ hs.1 hs.2 hs.1 hs.2 _).mono ?_; rintro e w1 ⟨rfl, h1⟩)
        go_roundw
        case rel => exact ⟨k + 1, by omega, .inl (by omega), int_eq E.out, by go_num, bthen hb h1⟩
        case measure => simp [intOf]; omega
      · go_wp2_with fail
        go_ret
        exact ⟨ret_int (shl_past a k n (by omega) (by omega)), hb⟩
    · go_wp2_with fail
      go_ret
      exact ⟨ret_int (shl_done a k n (by omega) hn), hb⟩
end Go.Proofs.YthaapajmpgnadaaDoor
