/- The table of instructions, walked: part 3. Printed by a program. -/
import Derived.Test.YtefijgdbnjmifaaDoorInstrT
namespace Go.Proofs.YtefijgdbnjmifaaDoor
open Go.RowKit

set_option maxRecDepth 100000 in
theorem words_48 (w : World) : Calls Tryd.prog 31 #[.int .u8 48] w (RetB (.string (wordK 48)) w) := by
  go_enter Tryd.func31, Tryd.ntmps31
  go_wp2
  refine wp_loop_rounds 3 ?_
  generalize h : ByteArray.extract _ _ _ = s5
  have h2 : s5 = ⟨#[99, 111, 110, 106]⟩ := h ▸ (by rfl)
  clear h
  subst h2
  rw [rounds_succ]
  go_wp2
  go_ret
  exact ⟨rfl, by go_grown⟩
theorem row_48 (w : World) : Calls Tryd.prog 13 #[.int .u8 48] w (RetB (rowV 48) w) := by
  go_enter Tryd.func13, Tryd.ntmps13
  go_wp2_with fail
  refine (words_48 _).mono ?_
  rintro e w1 ⟨rfl, h1⟩
  have c1 := (bcell h1).1
  have c2 := (bcell h1).2
  have k : ∀ i, (w1.cell? ⟨w.heap.size, i, none⟩) = _ := fun i => (c1 w.heap.size i (by simp)).trans (World.cell?_alloc_new ..)
  go_wp2_with fail
  refine bodyPost_ret (v := rowV 48) (by simp [results, Tryd.results13, go_sem, World.cell?_setCell_same', World.cell?_setCell_other, k]; rfl) rfl ⟨rfl, ?_⟩
  go_grown
  exact ((Below.refl _ w).alloc (Nat.le_refl _) _).trans (h1.mono (by simp))
theorem row_49 (w : World) : Calls Tryd.prog 13 #[.int .u8 49] w (RetB (rowV 49) w) := by
  go_enter Tryd.func13, Tryd.ntmps13
  go_wp2
  exact bodyPost_ret (v := rowV 49) (by simp [results, Tryd.results13, go_sem]; rfl) rfl ⟨rfl, by go_grown⟩
theorem row_50 (w : World) : Calls Tryd.prog 13 #[.int .u8 50] w (RetB (rowV 50) w) := by
  go_enter Tryd.func13, Tryd.ntmps13
  go_wp2
  exact bodyPost_ret (v := rowV 50) (by simp [results, Tryd.results13, go_sem]; rfl) rfl ⟨rfl, by go_grown⟩
theorem row_51 (w : World) : Calls Tryd.prog 13 #[.int .u8 51] w (RetB (rowV 51) w) := by
  go_enter Tryd.func13, Tryd.ntmps13
  go_wp2
  exact bodyPost_ret (v := rowV 51) (by simp [results, Tryd.results13, go_sem]; rfl) rfl ⟨rfl, by go_grown⟩
theorem row_52 (w : World) : Calls Tryd.prog 13 #[.int .u8 52] w (RetB (rowV 52) w) := by
  go_enter Tryd.func13, Tryd.ntmps13
  go_wp2
  exact bodyPost_ret (v := rowV 52) (by simp [results, Tryd.results13, go_sem]; rfl) rfl ⟨rfl, by go_grown⟩
theorem row_53 (w : World) : Calls Tryd.prog 13 #[.int .u8 53] w (RetB (rowV 53) w) := by
  go_enter Tryd.func13, Tryd.ntmps13
  go_wp2
  exact bodyPost_ret (v := rowV 53) (by simp [results, Tryd.results13, go_sem]; rfl) rfl ⟨rfl, by go_grown⟩
theorem row_54 (w : World) : Calls Tryd.prog 13 #[.int .u8 54] w (RetB (rowV 54) w) := by
  go_enter Tryd.func13, Tryd.ntmps13
  go_wp2
  exact bodyPost_ret (v := rowV 54) (by simp [results, Tryd.results13, go_sem]; rfl) rfl ⟨rfl, by go_grown⟩
theorem row_55 (w : World) : Calls Tryd.prog 13 #[.int .u8 55] w (RetB (rowV 55) w) := by
  go_enter Tryd.func13, Tryd.ntmps13
  go_wp2
  exact bodyPost_ret (v := rowV 55) (by simp [results, Tryd.results13, go_sem]; rfl) rfl ⟨rfl, by go_grown⟩
theorem row_56 (w : World) : Calls Tryd.prog 13 #[.int .u8 56] w (RetB (rowV 56) w) := by
  go_enter Tryd.func13, Tryd.ntmps13
  go_wp2
  exact bodyPost_ret (v := rowV 56) (by simp [results, Tryd.results13, go_sem]; rfl) rfl ⟨rfl, by go_grown⟩
theorem row_57 (w : World) : Calls Tryd.prog 13 #[.int .u8 57] w (RetB (rowV 57) w) := by
  go_enter Tryd.func13, Tryd.ntmps13
  go_wp2
  exact bodyPost_ret (v := rowV 57) (by simp [results, Tryd.results13, go_sem]; rfl) rfl ⟨rfl, by go_grown⟩
theorem row_58 (w : World) : Calls Tryd.prog 13 #[.int .u8 58] w (RetB (rowV 58) w) := by
  go_enter Tryd.func13, Tryd.ntmps13
  go_wp2
  exact bodyPost_ret (v := rowV 58) (by simp [results, Tryd.results13, go_sem]; rfl) rfl ⟨rfl, by go_grown⟩
theorem row_59 (w : World) : Calls Tryd.prog 13 #[.int .u8 59] w (RetB (rowV 59) w) := by
  go_enter Tryd.func13, Tryd.ntmps13
  go_wp2
  exact bodyPost_ret (v := rowV 59) (by simp [results, Tryd.results13, go_sem]; rfl) rfl ⟨rfl, by go_grown⟩
theorem row_60 (w : World) : Calls Tryd.prog 13 #[.int .u8 60] w (RetB (rowV 60) w) := by
  go_enter Tryd.func13, Tryd.ntmps13
  go_wp2
  exact bodyPost_ret (v := rowV 60) (by simp [results, Tryd.results13, go_sem]; rfl) rfl ⟨rfl, by go_grown⟩
theorem row_61 (w : World) : Calls Tryd.prog 13 #[.int .u8 61] w (RetB (rowV 61) w) := by
  go_enter Tryd.func13, Tryd.ntmps13
  go_wp2
  exact bodyPost_ret (v := rowV 61) (by simp [results, Tryd.results13, go_sem]; rfl) rfl ⟨rfl, by go_grown⟩
theorem row_62 (w : World) : Calls Tryd.prog 13 #[.int .u8 62] w (RetB (rowV 62) w) := by
  go_enter Tryd.func13, Tryd.ntmps13
  go_wp2
  exact bodyPost_ret (v := rowV 62) (by simp [results, Tryd.results13, go_sem]; rfl) rfl ⟨rfl, by go_grown⟩
theorem row_63 (w : World) : Calls Tryd.prog 13 #[.int .u8 63] w (RetB (rowV 63) w) := by
  go_enter Tryd.func13, Tryd.ntmps13
  go_wp2
  exact bodyPost_ret (v := rowV 63) (by simp [results, Tryd.results13, go_sem]; rfl) rfl ⟨rfl, by go_grown⟩
set_option maxRecDepth 100000 in
theorem sub_row_big (op : Int) (h0 : 64 ≤ op) (h1 : op ≤ 255) (w : World) : Calls Tryd.prog 32 #[.int .u8 op] w (RetB (rowV 0) w) := by
  have f1 : (op == 1) = false := by simpa using (by omega : ¬ op = 1)
  have f2 : (op == 2) = false := by simpa using (by omega : ¬ op = 2)
  have f3 : (op == 3) = false := by simpa using (by omega : ¬ op = 3)
  have f4 : (op == 4) = false := by simpa using (by omega : ¬ op = 4)
  have f5 : (op == 5) = false := by simpa using (by omega : ¬ op = 5)
  have f6 : (op == 6) = false := by simpa using (by omega : ¬ op = 6)
  have f8 : (op == 8) = false := by simpa using (by omega : ¬ op = 8)
  have f9 : (op == 9) = false := by simpa using (by omega : ¬ op = 9)
  have f10 : (op == 10) = false := by simpa using (by omega : ¬ op = 10)
  have f20 : (op == 20) = false := by simpa using (by omega : ¬ op = 20)
  have f21 : (op == 21) = false := by simpa using (by omega : ¬ op = 21)
  have f22 : (op == 22) = false := by simpa using (by omega : ¬ op = 22)
  have f23 : (op == 23) = false := by simpa using (by omega : ¬ op = 23)
  have f24 : (op == 24) = false := by simpa using (by omega : ¬ op = 24)
  have f25 : (op == 25) = false := by simpa using (by omega : ¬ op = 25)
  have f26 : (op == 26) = false := by simpa using (by omega : ¬ op = 26)
  have f27 : (op == 27) = false := by simpa using (by omega : ¬ op = 27)
  have f28 : (op == 28) = false := by simpa using (by omega : ¬ op = 28)
  have f50 : (op == 50) = false := by simpa using (by omega : ¬ op = 50)
  have f51 : (op == 51) = false := by simpa using (by omega : ¬ op = 51)
  have f52 : (op == 52) = false := by simpa using (by omega : ¬ op = 52)
  have f53 : (op == 53) = false := by simpa using (by omega : ¬ op = 53)
  have f54 : (op == 54) = false := by simpa using (by omega : ¬ op = 54)
  have f55 : (op == 55) = false := by simpa using (by omega : ¬ op = 55)
  have f56 : (op == 56) = false := by simpa using (by omega : ¬ op = 56)
  have f57 : (op == 57) = false := by simpa using (by omega : ¬ op = 57)
  have f32 : (op == 32) = false := by simpa using (by omega : ¬ op = 32)
  have f33 : (op == 33) = false := by simpa using (by omega : ¬ op = 33)
  have f34 : (op == 34) = false := by simpa using (by omega : ¬ op = 34)
  have f35 : (op == 35) = false := by simpa using (by omega : ¬ op = 35)
  have f36 : (op == 36) = false := by simpa using (by omega : ¬ op = 36)
  have f37 : (op == 37) = false := by simpa using (by omega : ¬ op = 37)
  have f38 : (op == 38) = false := by simpa using (by omega : ¬ op = 38)
  have f39 : (op == 39) = false := by simpa using (by omega : ¬ op = 39)
  have f40 : (op == 40) = false := by simpa using (by omega : ¬ op = 40)
  have f41 : (op == 41) = false := by simpa using (by omega : ¬ op = 41)
  have f42 : (op == 42) = false := by simpa using (by omega : ¬ op = 42)
  have f43 : (op == 43) = false := by simpa using (by omega : ¬ op = 43)
  have f44 : (op == 44) = false := by simpa using (by omega : ¬ op = 44)
  have f45 : (op == 45) = false := by simpa using (by omega : ¬ op = 45)
  have f46 : (op == 46) = false := by simpa using (by omega : ¬ op = 46)
  have f47 : (op == 47) = false := by simpa using (by omega : ¬ op = 47)
  have f48 : (op == 48) = false := by simpa using (by omega : ¬ op = 48)
  have f0 : (op == 0) = false := by simpa using (by omega : ¬ op = 0)
  have g1 : decide ((32 : Int) ≤ op) = true := decide_eq_true (by omega)
  have g2 : decide (op ≤ 48) = false := decide_eq_false (by omega)
  have g3 : decide (op ≤ 42) = false := decide_eq_false (by omega)
  have g4 : decide ((43 : Int) ≤ op) = true := decide_eq_true (by omega)
  go_enter Tryd.func32, Tryd.ntmps32
  go_wp2
  exact bodyPost_ret (v := rowV 0) (by simp [results, Tryd.results32, go_sem]; rfl) rfl ⟨rfl, by go_grown⟩
set_option maxRecDepth 100000 in
theorem row_big (op : Int) (h0 : 64 ≤ op) (h1 : op ≤ 255) (w : World) : Calls Tryd.prog 13 #[.int .u8 op] w (RetB (rowV 0) w) := by
  have f1 : (op == 1) = false := by simpa using (by omega : ¬ op = 1)
  have f2 : (op == 2) = false := by simpa using (by omega : ¬ op = 2)
  have f3 : (op == 3) = false := by simpa using (by omega : ¬ op = 3)
  have f4 : (op == 4) = false := by simpa using (by omega : ¬ op = 4)
  have f5 : (op == 5) = false := by simpa using (by omega : ¬ op = 5)
  have f6 : (op == 6) = false := by simpa using (by omega : ¬ op = 6)
  have f8 : (op == 8) = false := by simpa using (by omega : ¬ op = 8)
  have f9 : (op == 9) = false := by simpa using (by omega : ¬ op = 9)
  have f10 : (op == 10) = false := by simpa using (by omega : ¬ op = 10)
  have f20 : (op == 20) = false := by simpa using (by omega : ¬ op = 20)
  have f21 : (op == 21) = false := by simpa using (by omega : ¬ op = 21)
  have f22 : (op == 22) = false := by simpa using (by omega : ¬ op = 22)
  have f23 : (op == 23) = false := by simpa using (by omega : ¬ op = 23)
  have f24 : (op == 24) = false := by simpa using (by omega : ¬ op = 24)
  have f25 : (op == 25) = false := by simpa using (by omega : ¬ op = 25)
  have f26 : (op == 26) = false := by simpa using (by omega : ¬ op = 26)
  have f27 : (op == 27) = false := by simpa using (by omega : ¬ op = 27)
  have f28 : (op == 28) = false := by simpa using (by omega : ¬ op = 28)
  have f50 : (op == 50) = false := by simpa using (by omega : ¬ op = 50)
  have f51 : (op == 51) = false := by simpa using (by omega : ¬ op = 51)
  have f52 : (op == 52) = false := by simpa using (by omega : ¬ op = 52)
  have f53 : (op == 53) = false := by simpa using (by omega : ¬ op = 53)
  have f54 : (op == 54) = false := by simpa using (by omega : ¬ op = 54)
  have f55 : (op == 55) = false := by simpa using (by omega : ¬ op = 55)
  have f56 : (op == 56) = false := by simpa using (by omega : ¬ op = 56)
  have f57 : (op == 57) = false := by simpa using (by omega : ¬ op = 57)
  have f32 : (op == 32) = false := by simpa using (by omega : ¬ op = 32)
  have f33 : (op == 33) = false := by simpa using (by omega : ¬ op = 33)
  have f34 : (op == 34) = false := by simpa using (by omega : ¬ op = 34)
  have f35 : (op == 35) = false := by simpa using (by omega : ¬ op = 35)
  have f36 : (op == 36) = false := by simpa using (by omega : ¬ op = 36)
  have f37 : (op == 37) = false := by simpa using (by omega : ¬ op = 37)
  have f38 : (op == 38) = false := by simpa using (by omega : ¬ op = 38)
  have f39 : (op == 39) = false := by simpa using (by omega : ¬ op = 39)
  have f40 : (op == 40) = false := by simpa using (by omega : ¬ op = 40)
  have f41 : (op == 41) = false := by simpa using (by omega : ¬ op = 41)
  have f42 : (op == 42) = false := by simpa using (by omega : ¬ op = 42)
  have f43 : (op == 43) = false := by simpa using (by omega : ¬ op = 43)
  have f44 : (op == 44) = false := by simpa using (by omega : ¬ op = 44)
  have f45 : (op == 45) = false := by simpa using (by omega : ¬ op = 45)
  have f46 : (op == 46) = false := by simpa using (by omega : ¬ op = 46)
  have f47 : (op == 47) = false := by simpa using (by omega : ¬ op = 47)
  have f48 : (op == 48) = false := by simpa using (by omega : ¬ op = 48)
  have f0 : (op == 0) = false := by simpa using (by omega : ¬ op = 0)
  have g1 : decide ((32 : Int) ≤ op) = true := decide_eq_true (by omega)
  have g2 : decide (op ≤ 48) = false := decide_eq_false (by omega)
  have g3 : decide (op ≤ 42) = false := decide_eq_false (by omega)
  have g4 : decide ((43 : Int) ≤ op) = true := decide_eq_true (by omega)
  go_enter Tryd.func13, Tryd.ntmps13
  go_wp2_with fail
  refine (sub_row_big op h0 h1 _).mono ?_
  rintro e w1 ⟨rfl, h1⟩
  have c1 := (bcell h1).1
  have c2 := (bcell h1).2
  have k : ∀ i, (w1.cell? ⟨w.heap.size, i, none⟩) = _ := fun i => (c1 w.heap.size i (by simp)).trans (World.cell?_alloc_new ..)
  simp only [rowV]
  go_wp2_with fail
  refine bodyPost_ret (v := rowV 0) (by simp [results, Tryd.results13, go_sem, World.cell?_setCell_same', World.cell?_setCell_other, k]; rfl) rfl ⟨rfl, ?_⟩
  go_grown
  exact ((Below.refl _ w).alloc (Nat.le_refl _) _).trans (h1.mono (by simp))
end Go.Proofs.YtefijgdbnjmifaaDoor
