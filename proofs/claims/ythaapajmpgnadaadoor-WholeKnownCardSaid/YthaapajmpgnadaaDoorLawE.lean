/- The statement WholeKnown of layer 1, walked. -/
import Derived.Test.YthaapajmpgnadaaDoorLawD
namespace Go.Proofs.YthaapajmpgnadaaDoor
open Go.RowKit

set_option maxHeartbeats 1000000 in
theorem mostint_any (zs : List Int) (A : Option Addr) (n c : Nat) (w : World) (hn : n ≤ 1000000) (hs : Sl w 1 A n (i64s zs)) :
    Calls Tryd.prog 37 #[.slice A n c] w (Ret (.tuple #[.int .i64 (mostN zs n), .bool (decide (0 < n))]) w) := by
  go_enter Tryd.func37, Tryd.ntmps37
  go_wp2_with fail
  go_loop [4, 9, 5, 6] (fun m i _ _ => ∃ k : Nat, k ≤ n ∧ i = .int .i64 k ∧ m = .int .i64 (mostN zs k)) (fun _ i _ _ => n - (intOf i).toNat)
  case atStart => exact ⟨0, by omega, rfl, rfl⟩
  case round =>
    obtain ⟨k, hk, rfl, rfl⟩ := hrel
    by_cases hlt : k < n
    · obtain ⟨b, off, rfl, _, hc⟩ := hs (by omega)
      have hcell := hc k (by omega)
      simp only [i64s] at hcell
      generalize hz : zs.getD k 0 = z at hcell
      have Hz := Lib.hid hz
      clear hz hc
      by_cases h0 : k = 0
      · subst h0
        have hcell0 : w.cell? ⟨b, off, none⟩ = some (.int .i64 z) := hcell
        clear hcell
        go_wp2
        go_round
        case rel => exact ⟨1, by omega, rfl, int_eq (by rw [← Hz.out]; exact (mostN_take (.inl rfl)).symm)⟩
        case measure => simp [intOf]; omega
      · have e0 : (((k : Nat) : Int) == 0) = false := by simpa using h0
        by_cases h1 : mostN zs k < z
        · have H1 := Lib.hid (mostN_take (zs := zs) (k := k) (.inr (by rw [Hz.out]; exact h1)))
          go_wp2
          go_round
          case rel => exact ⟨k + 1, by omega, by go_num, int_eq (by rw [H1.out, Hz.out])⟩
          case measure => simp [intOf]; omega
        · have H1 := Lib.hid (mostN_keep (zs := zs) h0 (by rw [Hz.out]; exact h1))
          go_wp2
          go_round
          case rel => exact ⟨k + 1, by omega, by go_num, int_eq H1.out.symm⟩
          case measure => simp [intOf]; omega
    · obtain rfl : k = n := by omega
      go_wp2
      go_ret2
      exact ⟨rfl, rfl⟩
theorem clampint_any (x lo hi : Int) (w : World) : Calls Tryd.prog 39 #[.int .i64 x, .int .i64 lo, .int .i64 hi] w (Ret (.int .i64 (clampV x lo hi)) w) := by
  have e0 : clampV x lo hi = if x < lo then lo else if hi < x then hi else x := rfl
  have e := Lib.hid e0
  clear e0
  by_cases h1 : x < lo
  · go_enter Tryd.func39, Tryd.ntmps39
    go_wp2_with fail
    go_ret
    exact ⟨ret_int (by rw [e.out, if_pos h1]), rfl⟩
  · by_cases h2 : hi < x
    · go_enter Tryd.func39, Tryd.ntmps39
      go_wp2_with fail
      go_ret
      exact ⟨ret_int (by rw [e.out, if_neg (by omega), if_pos h2]), rfl⟩
    · go_enter Tryd.func39, Tryd.ntmps39
      go_wp2_with fail
      go_ret
      exact ⟨ret_int (by rw [e.out, if_neg (by omega), if_neg (by omega)]), rfl⟩


theorem most16_none (A : Option Addr) (c : Nat) (w : World) : Calls Tryd.prog 38 #[.slice A 0 c] w (Ret (.tuple #[.int .i16 0, .bool false]) w) := by
  go_enter Tryd.func38, Tryd.ntmps38
  go_wp2_with fail
  refine wp_loop_rounds 1 ?_
  rw [rounds_succ]
  go_wp2
  go_ret2
  exact ⟨rfl, rfl⟩

def ks1 : ByteArray := ⟨#[45, 57, 50, 50, 51, 51, 55, 50, 48, 51, 54, 56, 53, 52, 55, 55, 53, 56, 48, 56]⟩
theorem kv1 : readV ks1 = .tuple #[.int .i64 (-9223372036854775808), .int .i64 0] := by kernel_rfl
def ks2 : ByteArray := ⟨#[57, 50, 50, 51, 51, 55, 50, 48, 51, 54, 56, 53, 52, 55, 55, 53, 56, 48, 56]⟩
theorem kv2 : readV ks2 = .tuple #[.int .i64 0, .int .i64 2] := by kernel_rfl
theorem kv3 : readV ⟨#[45, 48]⟩ = .tuple #[.int .i64 0, .int .i64 9] := by kernel_rfl
theorem kv4 : readV ⟨#[48, 48, 55]⟩ = .tuple #[.int .i64 0, .int .i64 9] := by kernel_rfl
theorem sl3 (W : World) (t : TypeId) : Sl (W.alloc (.cells #[.int .i64 3, .int .i64 9, .int .i64 (-1)] t)) 1 (some ⟨W.heap.size, 0, none⟩) 3 (i64s [3, 9, -1]) := fun _ =>
  ⟨W.heap.size, 0, rfl, by simp, fun j hj => by
    rw [World.cell?_alloc_at _ _ _ _ rfl]
    match j, hj with
    | 0, _ => rfl
    | 1, _ => rfl
    | 2, _ => rfl⟩

set_option maxRecDepth 100000 in
set_option maxHeartbeats 4000000 in
theorem known_law (w : World) (hp : Pow10 w) (hr : RangeVar w) :
    Calls Tryd.prog 10 #[] w (RetB (.bool true) w) := by
  have H := Lib.hid hp
  have HR := Lib.hid hr
  clear hp hr
  go_enter Tryd.func10, Tryd.ntmps10
  go_wp2_with fail
  refine (div_any _ _ (by omega) (by omega) (by omega) (by omega) _).mono ?_; rintro e w' ⟨rfl, rfl⟩
  rw [show quo (-9223372036854775808) (-1) = 9223372036854775807 by decide +kernel, show zeroErr (-1) = 0 from rfl]
  go_wp2_with fail
  refine (mod_any _ _ (by omega) (by omega) _).mono ?_; rintro e w' ⟨rfl, rfl⟩
  rw [show rst (-9223372036854775808) (-1) = 0 by decide +kernel, show zeroErr (-1) = 0 from rfl]
  go_wp2_with fail
  refine (div_any _ _ (by omega) (by omega) (by omega) (by omega) _).mono ?_; rintro e w' ⟨rfl, rfl⟩
  rw [show quo 1 0 = 0 from rfl, show zeroErr 0 = 10 from rfl]
  go_wp2_with fail
  refine (mod_any _ _ (by omega) (by omega) _).mono ?_; rintro e w' ⟨rfl, rfl⟩
  rw [show rst 0 0 = 0 from rfl, show zeroErr 0 = 10 from rfl]
  go_wp2_with fail
  refine (read_s ks1 _ (by decide) HR.out).mono ?_; rintro e w1 ⟨rfl, h1⟩
  rw [kv1]
  go_wp2_with fail
  refine (read_s ks2 _ (by decide) (HR.out.below h1)).mono ?_; rintro e w2 ⟨rfl, h2⟩
  rw [kv2]
  have h12 := bthen h1 h2
  go_wp2_with fail
  refine (read_s _ _ (by decide) (HR.out.below h12)).mono ?_; rintro e w3 ⟨rfl, h3⟩
  rw [kv3]
  have h13 := bthen h12 h3
  go_wp2_with fail
  refine (read_s _ _ (by decide) (HR.out.below h13)).mono ?_; rintro e w4 ⟨rfl, h4⟩
  rw [kv4]
  have h14 := bthen h13 h4
  clear h1 h2 h12 h3 h13 h4
  go_wp2_with fail
  refine (mostint_any [3, 9, -1] _ 3 _ _ (by omega) (sl3 w4 _)).mono ?_; rintro e w' ⟨rfl, rfl⟩
  rw [show mostN [3, 9, -1] 3 = 9 by decide +kernel, show decide (0 < 3) = true from rfl]
  go_wp2_with fail
  refine (most16_none _ _ _).mono ?_; rintro e w' ⟨rfl, rfl⟩
  go_wp2_with fail
  have h15 := (h14.alloc h14.size (.cells #[.int .i64 3, .int .i64 9, .int .i64 (-1)] 3))
  have h16 := (h15.alloc h15.size (.cells #[] 53))
  refine (awake_any _ (H.out.below h16)).mono ?_; rintro e w5 ⟨rfl, h5⟩
  have h17 := bthen h16 h5
  clear h14 h15 h16 h5
  go_wp2_with fail
  refine (shift_any (-1) 63 (by omega) (by omega) (by omega) (by omega) _).mono ?_; rintro e w' ⟨rfl, rfl⟩
  rw [show shl (-1) 63 = -9223372036854775808 by decide +kernel]
  go_wp2_with fail
  refine (shift_any 1 63 (by omega) (by omega) (by omega) (by omega) _).mono ?_; rintro e w' ⟨rfl, rfl⟩
  rw [show shl 1 63 = 9223372036854775807 by decide +kernel]
  go_wp2_with fail
  refine (shift_any 5 (-1) (by omega) (by omega) (by omega) (by omega) _).mono ?_; rintro e w' ⟨rfl, rfl⟩
  rw [show shl 5 (-1) = 5 by decide +kernel]
  go_wp2_with fail
  refine (clampint_any 4 5 3 _).mono ?_; rintro e w' ⟨rfl, rfl⟩
  rw [show clampV 4 5 3 = 5 by decide]
  go_wp2_with fail
  refine (clampint_any 5 5 3 _).mono ?_; rintro e w' ⟨rfl, rfl⟩
  rw [show clampV 5 5 3 = 3 by decide]
  go_wp2_with fail
  refine (clamp8_any 5 1 3 _).mono ?_; rintro e w' ⟨rfl, rfl⟩
  rw [show clampV 5 1 3 = 3 by decide]
  go_wp2_with fail
  go_ret
  exact ⟨rfl, h17⟩
end Go.Proofs.YthaapajmpgnadaaDoor
