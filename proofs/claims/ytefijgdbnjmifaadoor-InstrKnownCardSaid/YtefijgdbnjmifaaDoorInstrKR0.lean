/- The table of instructions, walked: part 0. Printed by a program. The table of instructions, walked: part 1. Printed by a program. -/
import Derived.Test.YtefijgdbnjmifaaDoorInstrT
namespace Go.Proofs.YtefijgdbnjmifaaDoor
open Go.RowKit

theorem row_0 (w : World) : Calls Tryd.prog 13 #[.int .u8 0] w (RetB (rowV 0) w) := by
  go_enter Tryd.func13, Tryd.ntmps13
  go_wp2
  exact bodyPost_ret (v := rowV 0) (by simp [results, Tryd.results13, go_sem]; rfl) rfl ⟨rfl, by go_grown⟩
theorem row_1 (w : World) : Calls Tryd.prog 13 #[.int .u8 1] w (RetB (rowV 1) w) := by
  go_enter Tryd.func13, Tryd.ntmps13
  go_wp2
  exact bodyPost_ret (v := rowV 1) (by simp [results, Tryd.results13, go_sem]; rfl) rfl ⟨rfl, by go_grown⟩
theorem row_2 (w : World) : Calls Tryd.prog 13 #[.int .u8 2] w (RetB (rowV 2) w) := by
  go_enter Tryd.func13, Tryd.ntmps13
  go_wp2
  exact bodyPost_ret (v := rowV 2) (by simp [results, Tryd.results13, go_sem]; rfl) rfl ⟨rfl, by go_grown⟩
theorem row_3 (w : World) : Calls Tryd.prog 13 #[.int .u8 3] w (RetB (rowV 3) w) := by
  go_enter Tryd.func13, Tryd.ntmps13
  go_wp2
  exact bodyPost_ret (v := rowV 3) (by simp [results, Tryd.results13, go_sem]; rfl) rfl ⟨rfl, by go_grown⟩
theorem row_4 (w : World) : Calls Tryd.prog 13 #[.int .u8 4] w (RetB (rowV 4) w) := by
  go_enter Tryd.func13, Tryd.ntmps13
  go_wp2
  exact bodyPost_ret (v := rowV 4) (by simp [results, Tryd.results13, go_sem]; rfl) rfl ⟨rfl, by go_grown⟩
theorem row_5 (w : World) : Calls Tryd.prog 13 #[.int .u8 5] w (RetB (rowV 5) w) := by
  go_enter Tryd.func13, Tryd.ntmps13
  go_wp2
  exact bodyPost_ret (v := rowV 5) (by simp [results, Tryd.results13, go_sem]; rfl) rfl ⟨rfl, by go_grown⟩
theorem row_6 (w : World) : Calls Tryd.prog 13 #[.int .u8 6] w (RetB (rowV 6) w) := by
  go_enter Tryd.func13, Tryd.ntmps13
  go_wp2
  exact bodyPost_ret (v := rowV 6) (by simp [results, Tryd.results13, go_sem]; rfl) rfl ⟨rfl, by go_grown⟩
theorem row_7 (w : World) : Calls Tryd.prog 13 #[.int .u8 7] w (RetB (rowV 7) w) := by
  go_enter Tryd.func13, Tryd.ntmps13
  go_wp2
  exact bodyPost_ret (v := rowV 7) (by simp [results, Tryd.results13, go_sem]; rfl) rfl ⟨rfl, by go_grown⟩
theorem row_8 (w : World) : Calls Tryd.prog 13 #[.int .u8 8] w (RetB (rowV 8) w) := by
  go_enter Tryd.func13, Tryd.ntmps13
  go_wp2
  exact bodyPost_ret (v := rowV 8) (by simp [results, Tryd.results13, go_sem]; rfl) rfl ⟨rfl, by go_grown⟩
theorem row_9 (w : World) : Calls Tryd.prog 13 #[.int .u8 9] w (RetB (rowV 9) w) := by
  go_enter Tryd.func13, Tryd.ntmps13
  go_wp2
  exact bodyPost_ret (v := rowV 9) (by simp [results, Tryd.results13, go_sem]; rfl) rfl ⟨rfl, by go_grown⟩
theorem row_10 (w : World) : Calls Tryd.prog 13 #[.int .u8 10] w (RetB (rowV 10) w) := by
  go_enter Tryd.func13, Tryd.ntmps13
  go_wp2
  exact bodyPost_ret (v := rowV 10) (by simp [results, Tryd.results13, go_sem]; rfl) rfl ⟨rfl, by go_grown⟩
theorem row_11 (w : World) : Calls Tryd.prog 13 #[.int .u8 11] w (RetB (rowV 11) w) := by
  go_enter Tryd.func13, Tryd.ntmps13
  go_wp2
  exact bodyPost_ret (v := rowV 11) (by simp [results, Tryd.results13, go_sem]; rfl) rfl ⟨rfl, by go_grown⟩
theorem row_12 (w : World) : Calls Tryd.prog 13 #[.int .u8 12] w (RetB (rowV 12) w) := by
  go_enter Tryd.func13, Tryd.ntmps13
  go_wp2
  exact bodyPost_ret (v := rowV 12) (by simp [results, Tryd.results13, go_sem]; rfl) rfl ⟨rfl, by go_grown⟩
theorem row_13 (w : World) : Calls Tryd.prog 13 #[.int .u8 13] w (RetB (rowV 13) w) := by
  go_enter Tryd.func13, Tryd.ntmps13
  go_wp2
  exact bodyPost_ret (v := rowV 13) (by simp [results, Tryd.results13, go_sem]; rfl) rfl ⟨rfl, by go_grown⟩
theorem row_14 (w : World) : Calls Tryd.prog 13 #[.int .u8 14] w (RetB (rowV 14) w) := by
  go_enter Tryd.func13, Tryd.ntmps13
  go_wp2
  exact bodyPost_ret (v := rowV 14) (by simp [results, Tryd.results13, go_sem]; rfl) rfl ⟨rfl, by go_grown⟩
theorem row_15 (w : World) : Calls Tryd.prog 13 #[.int .u8 15] w (RetB (rowV 15) w) := by
  go_enter Tryd.func13, Tryd.ntmps13
  go_wp2
  exact bodyPost_ret (v := rowV 15) (by simp [results, Tryd.results13, go_sem]; rfl) rfl ⟨rfl, by go_grown⟩
end Go.Proofs.YtefijgdbnjmifaaDoor
namespace Go.Proofs.YtefijgdbnjmifaaDoor
open Go.RowKit

theorem row_16 (w : World) : Calls Tryd.prog 13 #[.int .u8 16] w (RetB (rowV 16) w) := by
  go_enter Tryd.func13, Tryd.ntmps13
  go_wp2
  exact bodyPost_ret (v := rowV 16) (by simp [results, Tryd.results13, go_sem]; rfl) rfl ⟨rfl, by go_grown⟩
theorem row_17 (w : World) : Calls Tryd.prog 13 #[.int .u8 17] w (RetB (rowV 17) w) := by
  go_enter Tryd.func13, Tryd.ntmps13
  go_wp2
  exact bodyPost_ret (v := rowV 17) (by simp [results, Tryd.results13, go_sem]; rfl) rfl ⟨rfl, by go_grown⟩
theorem row_18 (w : World) : Calls Tryd.prog 13 #[.int .u8 18] w (RetB (rowV 18) w) := by
  go_enter Tryd.func13, Tryd.ntmps13
  go_wp2
  exact bodyPost_ret (v := rowV 18) (by simp [results, Tryd.results13, go_sem]; rfl) rfl ⟨rfl, by go_grown⟩
theorem row_19 (w : World) : Calls Tryd.prog 13 #[.int .u8 19] w (RetB (rowV 19) w) := by
  go_enter Tryd.func13, Tryd.ntmps13
  go_wp2
  exact bodyPost_ret (v := rowV 19) (by simp [results, Tryd.results13, go_sem]; rfl) rfl ⟨rfl, by go_grown⟩
theorem row_20 (w : World) : Calls Tryd.prog 13 #[.int .u8 20] w (RetB (rowV 20) w) := by
  go_enter Tryd.func13, Tryd.ntmps13
  go_wp2
  exact bodyPost_ret (v := rowV 20) (by simp [results, Tryd.results13, go_sem]; rfl) rfl ⟨rfl, by go_grown⟩
theorem row_21 (w : World) : Calls Tryd.prog 13 #[.int .u8 21] w (RetB (rowV 21) w) := by
  go_enter Tryd.func13, Tryd.ntmps13
  go_wp2
  exact bodyPost_ret (v := rowV 21) (by simp [results, Tryd.results13, go_sem]; rfl) rfl ⟨rfl, by go_grown⟩
theorem row_22 (w : World) : Calls Tryd.prog 13 #[.int .u8 22] w (RetB (rowV 22) w) := by
  go_enter Tryd.func13, Tryd.ntmps13
  go_wp2
  exact bodyPost_ret (v := rowV 22) (by simp [results, Tryd.results13, go_sem]; rfl) rfl ⟨rfl, by go_grown⟩
theorem row_23 (w : World) : Calls Tryd.prog 13 #[.int .u8 23] w (RetB (rowV 23) w) := by
  go_enter Tryd.func13, Tryd.ntmps13
  go_wp2
  exact bodyPost_ret (v := rowV 23) (by simp [results, Tryd.results13, go_sem]; rfl) rfl ⟨rfl, by go_grown⟩
theorem row_24 (w : World) : Calls Tryd.prog 13 #[.int .u8 24] w (RetB (rowV 24) w) := by
  go_enter Tryd.func13, Tryd.ntmps13
  go_wp2
  exact bodyPost_ret (v := rowV 24) (by simp [results, Tryd.results13, go_sem]; rfl) rfl ⟨rfl, by go_grown⟩
theorem row_25 (w : World) : Calls Tryd.prog 13 #[.int .u8 25] w (RetB (rowV 25) w) := by
  go_enter Tryd.func13, Tryd.ntmps13
  go_wp2
  exact bodyPost_ret (v := rowV 25) (by simp [results, Tryd.results13, go_sem]; rfl) rfl ⟨rfl, by go_grown⟩
theorem row_26 (w : World) : Calls Tryd.prog 13 #[.int .u8 26] w (RetB (rowV 26) w) := by
  go_enter Tryd.func13, Tryd.ntmps13
  go_wp2
  exact bodyPost_ret (v := rowV 26) (by simp [results, Tryd.results13, go_sem]; rfl) rfl ⟨rfl, by go_grown⟩
theorem row_27 (w : World) : Calls Tryd.prog 13 #[.int .u8 27] w (RetB (rowV 27) w) := by
  go_enter Tryd.func13, Tryd.ntmps13
  go_wp2
  exact bodyPost_ret (v := rowV 27) (by simp [results, Tryd.results13, go_sem]; rfl) rfl ⟨rfl, by go_grown⟩
theorem row_28 (w : World) : Calls Tryd.prog 13 #[.int .u8 28] w (RetB (rowV 28) w) := by
  go_enter Tryd.func13, Tryd.ntmps13
  go_wp2
  exact bodyPost_ret (v := rowV 28) (by simp [results, Tryd.results13, go_sem]; rfl) rfl ⟨rfl, by go_grown⟩
theorem row_29 (w : World) : Calls Tryd.prog 13 #[.int .u8 29] w (RetB (rowV 29) w) := by
  go_enter Tryd.func13, Tryd.ntmps13
  go_wp2
  exact bodyPost_ret (v := rowV 29) (by simp [results, Tryd.results13, go_sem]; rfl) rfl ⟨rfl, by go_grown⟩
theorem row_30 (w : World) : Calls Tryd.prog 13 #[.int .u8 30] w (RetB (rowV 30) w) := by
  go_enter Tryd.func13, Tryd.ntmps13
  go_wp2
  exact bodyPost_ret (v := rowV 30) (by simp [results, Tryd.results13, go_sem]; rfl) rfl ⟨rfl, by go_grown⟩
theorem row_31 (w : World) : Calls Tryd.prog 13 #[.int .u8 31] w (RetB (rowV 31) w) := by
  go_enter Tryd.func13, Tryd.ntmps13
  go_wp2
  exact bodyPost_ret (v := rowV 31) (by simp [results, Tryd.results13, go_sem]; rfl) rfl ⟨rfl, by go_grown⟩
end Go.Proofs.YtefijgdbnjmifaaDoor
