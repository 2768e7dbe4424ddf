/- The table of instructions, walked: part 0. Printed by a program. The table of instructions, walked: part 1. Printed by a program. -/
import Derived.Test.YtjfdokoigkdciaaInstrT
namespace Go.Proofs.Ytjfdokoigkdciaa
open Go.RowKit

theorem kind_0 (w : World) : Calls Try.prog 15 #[.int .u8 0] w (RetB (kindV 0) w) := by
  go_enter Try.func15, Try.ntmps15
  go_wp2
  exact bodyPost_ret (v := kindV 0) (by simp [results, Try.results15, go_sem]; rfl) rfl ⟨rfl, by go_grown⟩
theorem kind_1 (w : World) : Calls Try.prog 15 #[.int .u8 1] w (RetB (kindV 1) w) := by
  go_enter Try.func15, Try.ntmps15
  go_wp2
  exact bodyPost_ret (v := kindV 1) (by simp [results, Try.results15, go_sem]; rfl) rfl ⟨rfl, by go_grown⟩
theorem kind_2 (w : World) : Calls Try.prog 15 #[.int .u8 2] w (RetB (kindV 2) w) := by
  go_enter Try.func15, Try.ntmps15
  go_wp2
  exact bodyPost_ret (v := kindV 2) (by simp [results, Try.results15, go_sem]; rfl) rfl ⟨rfl, by go_grown⟩
theorem kind_3 (w : World) : Calls Try.prog 15 #[.int .u8 3] w (RetB (kindV 3) w) := by
  go_enter Try.func15, Try.ntmps15
  go_wp2
  exact bodyPost_ret (v := kindV 3) (by simp [results, Try.results15, go_sem]; rfl) rfl ⟨rfl, by go_grown⟩
theorem kind_4 (w : World) : Calls Try.prog 15 #[.int .u8 4] w (RetB (kindV 4) w) := by
  go_enter Try.func15, Try.ntmps15
  go_wp2
  exact bodyPost_ret (v := kindV 4) (by simp [results, Try.results15, go_sem]; rfl) rfl ⟨rfl, by go_grown⟩
theorem kind_5 (w : World) : Calls Try.prog 15 #[.int .u8 5] w (RetB (kindV 5) w) := by
  go_enter Try.func15, Try.ntmps15
  go_wp2
  exact bodyPost_ret (v := kindV 5) (by simp [results, Try.results15, go_sem]; rfl) rfl ⟨rfl, by go_grown⟩
theorem kind_6 (w : World) : Calls Try.prog 15 #[.int .u8 6] w (RetB (kindV 6) w) := by
  go_enter Try.func15, Try.ntmps15
  go_wp2
  exact bodyPost_ret (v := kindV 6) (by simp [results, Try.results15, go_sem]; rfl) rfl ⟨rfl, by go_grown⟩
theorem kind_7 (w : World) : Calls Try.prog 15 #[.int .u8 7] w (RetB (kindV 7) w) := by
  go_enter Try.func15, Try.ntmps15
  go_wp2
  exact bodyPost_ret (v := kindV 7) (by simp [results, Try.results15, go_sem]; rfl) rfl ⟨rfl, by go_grown⟩
theorem kind_8 (w : World) : Calls Try.prog 15 #[.int .u8 8] w (RetB (kindV 8) w) := by
  go_enter Try.func15, Try.ntmps15
  go_wp2
  exact bodyPost_ret (v := kindV 8) (by simp [results, Try.results15, go_sem]; rfl) rfl ⟨rfl, by go_grown⟩
theorem kind_9 (w : World) : Calls Try.prog 15 #[.int .u8 9] w (RetB (kindV 9) w) := by
  go_enter Try.func15, Try.ntmps15
  go_wp2
  exact bodyPost_ret (v := kindV 9) (by simp [results, Try.results15, go_sem]; rfl) rfl ⟨rfl, by go_grown⟩
theorem kind_10 (w : World) : Calls Try.prog 15 #[.int .u8 10] w (RetB (kindV 10) w) := by
  go_enter Try.func15, Try.ntmps15
  go_wp2
  exact bodyPost_ret (v := kindV 10) (by simp [results, Try.results15, go_sem]; rfl) rfl ⟨rfl, by go_grown⟩
theorem kind_11 (w : World) : Calls Try.prog 15 #[.int .u8 11] w (RetB (kindV 11) w) := by
  go_enter Try.func15, Try.ntmps15
  go_wp2
  exact bodyPost_ret (v := kindV 11) (by simp [results, Try.results15, go_sem]; rfl) rfl ⟨rfl, by go_grown⟩
theorem kind_12 (w : World) : Calls Try.prog 15 #[.int .u8 12] w (RetB (kindV 12) w) := by
  go_enter Try.func15, Try.ntmps15
  go_wp2
  exact bodyPost_ret (v := kindV 12) (by simp [results, Try.results15, go_sem]; rfl) rfl ⟨rfl, by go_grown⟩
theorem kind_13 (w : World) : Calls Try.prog 15 #[.int .u8 13] w (RetB (kindV 13) w) := by
  go_enter Try.func15, Try.ntmps15
  go_wp2
  exact bodyPost_ret (v := kindV 13) (by simp [results, Try.results15, go_sem]; rfl) rfl ⟨rfl, by go_grown⟩
theorem kind_14 (w : World) : Calls Try.prog 15 #[.int .u8 14] w (RetB (kindV 14) w) := by
  go_enter Try.func15, Try.ntmps15
  go_wp2
  exact bodyPost_ret (v := kindV 14) (by simp [results, Try.results15, go_sem]; rfl) rfl ⟨rfl, by go_grown⟩
theorem kind_15 (w : World) : Calls Try.prog 15 #[.int .u8 15] w (RetB (kindV 15) w) := by
  go_enter Try.func15, Try.ntmps15
  go_wp2
  exact bodyPost_ret (v := kindV 15) (by simp [results, Try.results15, go_sem]; rfl) rfl ⟨rfl, by go_grown⟩
end Go.Proofs.Ytjfdokoigkdciaa
namespace Go.Proofs.Ytjfdokoigkdciaa
open Go.RowKit

theorem kind_16 (w : World) : Calls Try.prog 15 #[.int .u8 16] w (RetB (kindV 16) w) := by
  go_enter Try.func15, Try.ntmps15
  go_wp2
  exact bodyPost_ret (v := kindV 16) (by simp [results, Try.results15, go_sem]; rfl) rfl ⟨rfl, by go_grown⟩
theorem kind_17 (w : World) : Calls Try.prog 15 #[.int .u8 17] w (RetB (kindV 17) w) := by
  go_enter Try.func15, Try.ntmps15
  go_wp2
  exact bodyPost_ret (v := kindV 17) (by simp [results, Try.results15, go_sem]; rfl) rfl ⟨rfl, by go_grown⟩
theorem kind_18 (w : World) : Calls Try.prog 15 #[.int .u8 18] w (RetB (kindV 18) w) := by
  go_enter Try.func15, Try.ntmps15
  go_wp2
  exact bodyPost_ret (v := kindV 18) (by simp [results, Try.results15, go_sem]; rfl) rfl ⟨rfl, by go_grown⟩
theorem kind_19 (w : World) : Calls Try.prog 15 #[.int .u8 19] w (RetB (kindV 19) w) := by
  go_enter Try.func15, Try.ntmps15
  go_wp2
  exact bodyPost_ret (v := kindV 19) (by simp [results, Try.results15, go_sem]; rfl) rfl ⟨rfl, by go_grown⟩
theorem kind_20 (w : World) : Calls Try.prog 15 #[.int .u8 20] w (RetB (kindV 20) w) := by
  go_enter Try.func15, Try.ntmps15
  go_wp2
  exact bodyPost_ret (v := kindV 20) (by simp [results, Try.results15, go_sem]; rfl) rfl ⟨rfl, by go_grown⟩
theorem kind_21 (w : World) : Calls Try.prog 15 #[.int .u8 21] w (RetB (kindV 21) w) := by
  go_enter Try.func15, Try.ntmps15
  go_wp2
  exact bodyPost_ret (v := kindV 21) (by simp [results, Try.results15, go_sem]; rfl) rfl ⟨rfl, by go_grown⟩
theorem kind_22 (w : World) : Calls Try.prog 15 #[.int .u8 22] w (RetB (kindV 22) w) := by
  go_enter Try.func15, Try.ntmps15
  go_wp2
  exact bodyPost_ret (v := kindV 22) (by simp [results, Try.results15, go_sem]; rfl) rfl ⟨rfl, by go_grown⟩
theorem kind_23 (w : World) : Calls Try.prog 15 #[.int .u8 23] w (RetB (kindV 23) w) := by
  go_enter Try.func15, Try.ntmps15
  go_wp2
  exact bodyPost_ret (v := kindV 23) (by simp [results, Try.results15, go_sem]; rfl) rfl ⟨rfl, by go_grown⟩
theorem kind_24 (w : World) : Calls Try.prog 15 #[.int .u8 24] w (RetB (kindV 24) w) := by
  go_enter Try.func15, Try.ntmps15
  go_wp2
  exact bodyPost_ret (v := kindV 24) (by simp [results, Try.results15, go_sem]; rfl) rfl ⟨rfl, by go_grown⟩
theorem kind_25 (w : World) : Calls Try.prog 15 #[.int .u8 25] w (RetB (kindV 25) w) := by
  go_enter Try.func15, Try.ntmps15
  go_wp2
  exact bodyPost_ret (v := kindV 25) (by simp [results, Try.results15, go_sem]; rfl) rfl ⟨rfl, by go_grown⟩
theorem kind_26 (w : World) : Calls Try.prog 15 #[.int .u8 26] w (RetB (kindV 26) w) := by
  go_enter Try.func15, Try.ntmps15
  go_wp2
  exact bodyPost_ret (v := kindV 26) (by simp [results, Try.results15, go_sem]; rfl) rfl ⟨rfl, by go_grown⟩
theorem kind_27 (w : World) : Calls Try.prog 15 #[.int .u8 27] w (RetB (kindV 27) w) := by
  go_enter Try.func15, Try.ntmps15
  go_wp2
  exact bodyPost_ret (v := kindV 27) (by simp [results, Try.results15, go_sem]; rfl) rfl ⟨rfl, by go_grown⟩
theorem kind_28 (w : World) : Calls Try.prog 15 #[.int .u8 28] w (RetB (kindV 28) w) := by
  go_enter Try.func15, Try.ntmps15
  go_wp2
  exact bodyPost_ret (v := kindV 28) (by simp [results, Try.results15, go_sem]; rfl) rfl ⟨rfl, by go_grown⟩
theorem kind_29 (w : World) : Calls Try.prog 15 #[.int .u8 29] w (RetB (kindV 29) w) := by
  go_enter Try.func15, Try.ntmps15
  go_wp2
  exact bodyPost_ret (v := kindV 29) (by simp [results, Try.results15, go_sem]; rfl) rfl ⟨rfl, by go_grown⟩
theorem kind_30 (w : World) : Calls Try.prog 15 #[.int .u8 30] w (RetB (kindV 30) w) := by
  go_enter Try.func15, Try.ntmps15
  go_wp2
  exact bodyPost_ret (v := kindV 30) (by simp [results, Try.results15, go_sem]; rfl) rfl ⟨rfl, by go_grown⟩
theorem kind_31 (w : World) : Calls Try.prog 15 #[.int .u8 31] w (RetB (kindV 31) w) := by
  go_enter Try.func15, Try.ntmps15
  go_wp2
  exact bodyPost_ret (v := kindV 31) (by simp [results, Try.results15, go_sem]; rfl) rfl ⟨rfl, by go_grown⟩
end Go.Proofs.Ytjfdokoigkdciaa
