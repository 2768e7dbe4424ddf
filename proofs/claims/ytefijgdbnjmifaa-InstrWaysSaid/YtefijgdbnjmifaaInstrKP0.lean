/- The table of instructions, walked: part 0. Printed by a program. -/
import Derived.Test.YtefijgdbnjmifaaInstrT
namespace Go.Proofs.Ytefijgdbnjmifaa
open Go.RowKit

theorem kind_0 (w : World) : Calls Try.prog 20 #[.int .u8 0] w (RetB (kindV 0) w) := by
  go_enter Try.func20, Try.ntmps20
  go_wp2
  exact bodyPost_ret (v := kindV 0) (by simp [results, Try.results20, go_sem]; rfl) rfl ⟨rfl, by go_grown⟩
theorem kind_1 (w : World) : Calls Try.prog 20 #[.int .u8 1] w (RetB (kindV 1) w) := by
  go_enter Try.func20, Try.ntmps20
  go_wp2
  exact bodyPost_ret (v := kindV 1) (by simp [results, Try.results20, go_sem]; rfl) rfl ⟨rfl, by go_grown⟩
theorem kind_2 (w : World) : Calls Try.prog 20 #[.int .u8 2] w (RetB (kindV 2) w) := by
  go_enter Try.func20, Try.ntmps20
  go_wp2
  exact bodyPost_ret (v := kindV 2) (by simp [results, Try.results20, go_sem]; rfl) rfl ⟨rfl, by go_grown⟩
theorem kind_3 (w : World) : Calls Try.prog 20 #[.int .u8 3] w (RetB (kindV 3) w) := by
  go_enter Try.func20, Try.ntmps20
  go_wp2
  exact bodyPost_ret (v := kindV 3) (by simp [results, Try.results20, go_sem]; rfl) rfl ⟨rfl, by go_grown⟩
theorem kind_4 (w : World) : Calls Try.prog 20 #[.int .u8 4] w (RetB (kindV 4) w) := by
  go_enter Try.func20, Try.ntmps20
  go_wp2
  exact bodyPost_ret (v := kindV 4) (by simp [results, Try.results20, go_sem]; rfl) rfl ⟨rfl, by go_grown⟩
theorem kind_5 (w : World) : Calls Try.prog 20 #[.int .u8 5] w (RetB (kindV 5) w) := by
  go_enter Try.func20, Try.ntmps20
  go_wp2
  exact bodyPost_ret (v := kindV 5) (by simp [results, Try.results20, go_sem]; rfl) rfl ⟨rfl, by go_grown⟩
theorem kind_6 (w : World) : Calls Try.prog 20 #[.int .u8 6] w (RetB (kindV 6) w) := by
  go_enter Try.func20, Try.ntmps20
  go_wp2
  exact bodyPost_ret (v := kindV 6) (by simp [results, Try.results20, go_sem]; rfl) rfl ⟨rfl, by go_grown⟩
theorem kind_7 (w : World) : Calls Try.prog 20 #[.int .u8 7] w (RetB (kindV 7) w) := by
  go_enter Try.func20, Try.ntmps20
  go_wp2
  exact bodyPost_ret (v := kindV 7) (by simp [results, Try.results20, go_sem]; rfl) rfl ⟨rfl, by go_grown⟩
theorem kind_8 (w : World) : Calls Try.prog 20 #[.int .u8 8] w (RetB (kindV 8) w) := by
  go_enter Try.func20, Try.ntmps20
  go_wp2
  exact bodyPost_ret (v := kindV 8) (by simp [results, Try.results20, go_sem]; rfl) rfl ⟨rfl, by go_grown⟩
theorem kind_9 (w : World) : Calls Try.prog 20 #[.int .u8 9] w (RetB (kindV 9) w) := by
  go_enter Try.func20, Try.ntmps20
  go_wp2
  exact bodyPost_ret (v := kindV 9) (by simp [results, Try.results20, go_sem]; rfl) rfl ⟨rfl, by go_grown⟩
theorem kind_10 (w : World) : Calls Try.prog 20 #[.int .u8 10] w (RetB (kindV 10) w) := by
  go_enter Try.func20, Try.ntmps20
  go_wp2
  exact bodyPost_ret (v := kindV 10) (by simp [results, Try.results20, go_sem]; rfl) rfl ⟨rfl, by go_grown⟩
theorem kind_11 (w : World) : Calls Try.prog 20 #[.int .u8 11] w (RetB (kindV 11) w) := by
  go_enter Try.func20, Try.ntmps20
  go_wp2
  exact bodyPost_ret (v := kindV 11) (by simp [results, Try.results20, go_sem]; rfl) rfl ⟨rfl, by go_grown⟩
theorem kind_12 (w : World) : Calls Try.prog 20 #[.int .u8 12] w (RetB (kindV 12) w) := by
  go_enter Try.func20, Try.ntmps20
  go_wp2
  exact bodyPost_ret (v := kindV 12) (by simp [results, Try.results20, go_sem]; rfl) rfl ⟨rfl, by go_grown⟩
theorem kind_13 (w : World) : Calls Try.prog 20 #[.int .u8 13] w (RetB (kindV 13) w) := by
  go_enter Try.func20, Try.ntmps20
  go_wp2
  exact bodyPost_ret (v := kindV 13) (by simp [results, Try.results20, go_sem]; rfl) rfl ⟨rfl, by go_grown⟩
theorem kind_14 (w : World) : Calls Try.prog 20 #[.int .u8 14] w (RetB (kindV 14) w) := by
  go_enter Try.func20, Try.ntmps20
  go_wp2
  exact bodyPost_ret (v := kindV 14) (by simp [results, Try.results20, go_sem]; rfl) rfl ⟨rfl, by go_grown⟩
theorem kind_15 (w : World) : Calls Try.prog 20 #[.int .u8 15] w (RetB (kindV 15) w) := by
  go_enter Try.func20, Try.ntmps20
  go_wp2
  exact bodyPost_ret (v := kindV 15) (by simp [results, Try.results20, go_sem]; rfl) rfl ⟨rfl, by go_grown⟩
end Go.Proofs.Ytefijgdbnjmifaa
