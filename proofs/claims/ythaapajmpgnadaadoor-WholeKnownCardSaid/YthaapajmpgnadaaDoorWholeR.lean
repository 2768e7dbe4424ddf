/- The reference of layer 1, walked. -/
import Derived.Test.YthaapajmpgnadaaDoorWholeA
import Derived.Deep.RegionHeld3
namespace Go.Proofs.YthaapajmpgnadaaDoor
open Go.RowKit

theorem of_pos (a : Int) (ha : 0 ≤ a) (ha' : a ≤ 9223372036854775807) (w : World) :
    Calls Tryd.prog 43 #[.int .i64 a] w (RetB (.agg #[.bool false, .int .u64 0, .int .u64 a]) w) := by
  go_enter Tryd.func43, Tryd.ntmps43
  go_wp2_with fail
  exact bodyPost_ret (v := .agg #[.bool false, .int .u64 0, .int .u64 a]) (by simp [results, Tryd.results43, go_sem]) rfl ⟨rfl, (Below.refl _ _).alloc (Nat.le_refl _) _⟩
theorem of_neg (a : Int) (ha : a < 0) (ha' : -9223372036854775808 ≤ a) (w : World) :
    Calls Tryd.prog 43 #[.int .i64 a] w (RetB (.agg #[.bool true, .int .u64 0, .int .u64 (-a)]) w) := by
  have e := Lib.hid (show -(a + 1) + 1 = -a by omega)
  go_enter Tryd.func43, Tryd.ntmps43
  go_wp2_with fail
  rw [e.out]
  exact bodyPost_ret (v := .agg #[.bool true, .int .u64 0, .int .u64 (-a)]) (by simp [results, Tryd.results43, go_sem]) rfl ⟨rfl, (Below.refl _ _).alloc (Nat.le_refl _) _⟩
theorem of_any (a : Int) (ha : -9223372036854775808 ≤ a) (ha' : a ≤ 9223372036854775807) (w : World) :
    Calls Tryd.prog 43 #[.int .i64 a] w (RetB (.agg #[.bool (lt0 a), .int .u64 0, .int .u64 (size a)]) w) := by
  by_cases h : a < 0
  · have e : size a = -a := by unfold size; omega
    rw [lt0, decide_eq_true h, e]
    exact of_neg a h ha w
  · have e : size a = a := by unfold size; omega
    rw [lt0, decide_eq_false h, e]
    exact of_pos a (by omega) ha' w
set_option maxHeartbeats 400000 in
theorem held_any (b : Bool) (hi lo : Int) (h0 : 0 ≤ hi) (h1 : hi ≤ 18446744073709551615) (h2 : 0 ≤ lo) (h3 : lo ≤ 18446744073709551615) (w : World) :
    Calls Tryd.prog 41 #[.agg #[.bool b, .int .u64 hi, .int .u64 lo]] w (RetB (.int .i64 (sat (wv b hi lo))) w) := by
  cases b
  all_goals
    go_enter Tryd.func41, Tryd.ntmps41
    go_wp2_with fail
    all_goals go_ret
    all_goals refine ⟨ret_int ?_, (Below.refl _ _).alloc (Nat.le_refl _) _⟩
  · exact (held_hi hi lo h0 h2 (.inl (by assumption))).symm
  · exact (held_hi hi lo h0 h2 (.inr (by assumption))).symm
  · obtain rfl : hi = 0 := by omega
    exact (held_in lo h2 (by assumption)).symm
  · exact (held_lo hi lo h0 h2 (.inl (by assumption))).symm
  · exact (held_lo hi lo h0 h2 (.inr (by assumption))).symm
  · obtain rfl : hi = 0 := by omega
    first | exact held_neg lo h2 (by assumption) | exact held_neg' lo h2 (by assumption) | (simp only [IntKind.wrap_u64]; exact held_neg lo h2 (by assumption))
theorem sumHi_over (b : Bool) (lx ly : Int) (h0 : 0 ≤ lx) (h1 : lx ≤ 18446744073709551615) (h2 : 0 ≤ ly) (h3 : ly ≤ 18446744073709551615) (h : IntKind.u64.wrap (lx + ly) < lx) : 1 = sumHi b lx b ly := by
  rw [IntKind.wrap_u64] at h; simp only [sumHi, if_true]; omega
theorem sumHi_no (b : Bool) (lx ly : Int) (h0 : 0 ≤ lx) (h1 : lx ≤ 18446744073709551615) (h2 : 0 ≤ ly) (h3 : ly ≤ 18446744073709551615) (h : lx ≤ IntKind.u64.wrap (lx + ly)) : 0 = sumHi b lx b ly := by
  rw [IntKind.wrap_u64] at h; simp only [sumHi, if_true]; omega
theorem sumLo_wrap (b : Bool) (lx ly : Int) : IntKind.u64.wrap (lx + ly) = sumLo b lx b ly := by simp [sumLo, IntKind.wrap_u64]
theorem sum_ge1 (b : Bool) (lx ly : Int) (h : ly ≤ lx) : b = sumB b lx (!b) ly := by cases b <;> simp [sumB, h]
theorem sum_ge2 (b : Bool) (lx ly : Int) (h : ly ≤ lx) : lx - ly = sumLo b lx (!b) ly := by cases b <;> simp [sumLo, h]
theorem sum_ge3 (b : Bool) (lx ly : Int) : 0 = sumHi b lx (!b) ly := by cases b <;> simp [sumHi]
theorem sum_lt1 (b c : Bool) (lx ly : Int) (hb : b ≠ c) (h : lx < ly) : c = sumB b lx c ly := by simp [sumB, Int.not_le.2 h, hb]
theorem sum_lt2 (b : Bool) (lx ly : Int) (h : lx < ly) : ly - lx = sumLo b lx (!b) ly := by cases b <;> simp [sumLo, Int.not_le.2 h]
theorem wide_eq {a a' : Bool} {b b' c c' : Int} (h : a = a') (h' : b = b') (h'' : c = c') : Ending.returned (.agg #[.bool a, .int .u64 b, .int .u64 c]) = .returned (.agg #[.bool a', .int .u64 b', .int .u64 c']) := by rw [h, h', h'']
set_option maxHeartbeats 400000 in
theorem sum_any (bx : Bool) (lx : Int) (bz : Bool) (ly : Int) (h0 : 0 ≤ lx) (h1 : lx ≤ 18446744073709551615) (h2 : 0 ≤ ly) (h3 : ly ≤ 18446744073709551615) (w : World) :
    Calls Tryd.prog 42 #[.agg #[.bool bx, .int .u64 0, .int .u64 lx], .agg #[.bool bz, .int .u64 0, .int .u64 ly]] w
      (RetB (.agg #[.bool (sumB bx lx bz ly), .int .u64 (sumHi bx lx bz ly), .int .u64 (sumLo bx lx bz ly)]) w) := by
  cases bx <;> cases bz
  all_goals
    go_enter Tryd.func42, Tryd.ntmps42
    go_wp2_with fail
    all_goals
      refine bodyPost_ret (by simp [results, Tryd.results42, go_sem]; exact ⟨rfl, rfl, rfl⟩) rfl ⟨wide_eq ?_ ?_ ?_, ?_⟩
      all_goals first | rfl | exact sumHi_over _ _ _ h0 h1 h2 h3 (by assumption) | exact sumHi_no _ _ _ h0 h1 h2 h3 (by assumption) | exact sumLo_wrap _ _ _ | exact sum_ge1 _ _ _ (by assumption) | exact sum_ge2 _ _ _ (by assumption) | exact sum_ge3 _ _ _ | exact sum_lt1 _ _ _ _ (by decide) (by assumption) | exact sum_lt2 _ _ _ (by assumption) | (go_grown; done)

end Go.Proofs.YthaapajmpgnadaaDoor
