/- The table of instructions, walked: part 1. Printed by a program. -/
import Derived.Test.YtefijgdbnjmifaaInstrT
namespace Go.Proofs.Ytefijgdbnjmifaa
open Go.RowKit

theorem kind_16 (w : World) : Calls Try.prog 20 #[.int .u8 16] w (RetB (kindV 16) w) := by
  go_enter Try.func20, Try.ntmps20
  go_wp2
  exact bodyPost_ret (v := kindV 16) (by simp [results, Try.results20, go_sem]; rfl) rfl ⟨rfl, by go_grown⟩
theorem kind_17 (w : World) : Calls Try.prog 20 #[.int .u8 17] w (RetB (kindV 17) w) := by
  go_enter Try.func20, Try.ntmps20
  go_wp2
  exact bodyPost_ret (v := kindV 17) (by simp [results, Try.results20, go_sem]; rfl) rfl ⟨rfl, by go_grown⟩
theorem kind_18 (w : World) : Calls Try.prog 20 #[.int .u8 18] w (RetB (kindV 18) w) := by
  go_enter Try.func20, Try.ntmps20
  go_wp2
  exact bodyPost_ret (v := kindV 18) (by simp [results, Try.results20, go_sem]; rfl) rfl ⟨rfl, by go_grown⟩
theorem kind_19 (w : World) : Calls Try.prog 20 #[.int .u8 19] w (RetB (kindV 19) w) := by
  go_enter Try.func20, Try.ntmps20
  go_wp2
  exact bodyPost_ret (v := kindV 19) (by simp [results, Try.results20, go_sem]; rfl) rfl ⟨rfl, by go_grown⟩
theorem kind_20 (w : World) : Calls Try.prog 20 #[.int .u8 20] w (RetB (kindV 20) w) := by
  go_enter Try.func20, Try.ntmps20
  go_wp2
  exact bodyPost_ret (v := kindV 20) (by simp [results, Try.results20, go_sem]; rfl) rfl ⟨rfl, by go_grown⟩
theorem kind_21 (w : World) : Calls Try.prog 20 #[.int .u8 21] w (RetB (kindV 21) w) := by
  go_enter Try.func20, Try.ntmps20
  go_wp2
  exact bodyPost_ret (v := kindV 21) (by simp [results, Try.results20, go_sem]; rfl) rfl ⟨rfl, by go_grown⟩
theorem kind_22 (w : World) : Calls Try.prog 20 #[.int .u8 22] w (RetB (kindV 22) w) := by
  go_enter Try.func20, Try.ntmps20
  go_wp2
  exact bodyPost_ret (v := kindV 22) (by simp [results, Try.results20, go_sem]; rfl) rfl ⟨rfl, by go_grown⟩
theorem kind_23 (w : World) : Calls Try.prog 20 #[.int .u8 23] w (RetB (kindV 23) w) := by
  go_enter Try.func20, Try.ntmps20
  go_wp2
  exact bodyPost_ret (v := kindV 23) (by simp [results, Try.results20, go_sem]; rfl) rfl ⟨rfl, by go_grown⟩
theorem kind_24 (w : World) : Calls Try.prog 20 #[.int .u8 24] w (RetB (kindV 24) w) := by
  go_enter Try.func20, Try.ntmps20
  go_wp2
  exact bodyPost_ret (v := kindV 24) (by simp [results, Try.results20, go_sem]; rfl) rfl ⟨rfl, by go_grown⟩
theorem kind_25 (w : World) : Calls Try.prog 20 #[.int .u8 25] w (RetB (kindV 25) w) := by
  go_enter Try.func20, Try.ntmps20
  go_wp2
  exact bodyPost_ret (v := kindV 25) (by simp [results, Try.results20, go_sem]; rfl) rfl ⟨rfl, by go_grown⟩
theorem kind_26 (w : World) : Calls Try.prog 20 #[.int .u8 26] w (RetB (kindV 26) w) := by
  go_enter Try.func20, Try.ntmps20
  go_wp2
  exact bodyPost_ret (v := kindV 26) (by simp [results, Try.results20, go_sem]; rfl) rfl ⟨rfl, by go_grown⟩
theorem kind_27 (w : World) : Calls Try.prog 20 #[.int .u8 27] w (RetB (kindV 27) w) := by
  go_enter Try.func20, Try.ntmps20
  go_wp2
  exact bodyPost_ret (v := kindV 27) (by simp [results, Try.results20, go_sem]; rfl) rfl ⟨rfl, by go_grown⟩
theorem kind_28 (w : World) : Calls Try.prog 20 #[.int .u8 28] w (RetB (kindV 28) w) := by
  go_enter Try.func20, Try.ntmps20
  go_wp2
  exact bodyPost_ret (v := kindV 28) (by simp [results, Try.results20, go_sem]; rfl) rfl ⟨rfl, by go_grown⟩
theorem kind_29 (w : World) : Calls Try.prog 20 #[.int .u8 29] w (RetB (kindV 29) w) := by
  go_enter Try.func20, Try.ntmps20
  go_wp2
  exact bodyPost_ret (v := kindV 29) (by simp [results, Try.results20, go_sem]; rfl) rfl ⟨rfl, by go_grown⟩
theorem kind_30 (w : World) : Calls Try.prog 20 #[.int .u8 30] w (RetB (kindV 30) w) := by
  go_enter Try.func20, Try.ntmps20
  go_wp2
  exact bodyPost_ret (v := kindV 30) (by simp [results, Try.results20, go_sem]; rfl) rfl ⟨rfl, by go_grown⟩
theorem kind_31 (w : World) : Calls Try.prog 20 #[.int .u8 31] w (RetB (kindV 31) w) := by
  go_enter Try.func20, Try.ntmps20
  go_wp2
  exact bodyPost_ret (v := kindV 31) (by simp [results, Try.results20, go_sem]; rfl) rfl ⟨rfl, by go_grown⟩
end Go.Proofs.Ytefijgdbnjmifaa
