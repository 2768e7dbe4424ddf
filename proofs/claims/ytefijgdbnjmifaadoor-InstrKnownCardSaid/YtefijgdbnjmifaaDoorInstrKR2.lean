/- The table of instructions, walked: part 2. Printed by a program. -/
import Derived.Test.YtefijgdbnjmifaaDoorInstrT
namespace Go.Proofs.YtefijgdbnjmifaaDoor
open Go.RowKit

set_option maxRecDepth 100000 in
theorem words_32 (w : World) : Calls Tryd.prog 31 #[.int .u8 32] w (RetB (.string (wordK 32)) w) := by
  go_enter Tryd.func31, Tryd.ntmps31
  go_wp2
  refine wp_loop_rounds 3 ?_
  generalize h : ByteArray.extract _ _ _ = s5
  have h2 : s5 = ⟨#[101, 113, 32, 32]⟩ := h ▸ (by rfl)
  clear h
  subst h2
  rw [rounds_succ]
  go_wp2
  generalize h : ByteArray.extract _ _ _ = s5
  have h2 : s5 = ⟨#[101, 113, 32]⟩ := h ▸ (by rfl)
  clear h
  subst h2
  rw [rounds_succ]
  go_wp2
  generalize h : ByteArray.extract _ _ _ = s5
  have h2 : s5 = ⟨#[101, 113]⟩ := h ▸ (by rfl)
  clear h
  subst h2
  rw [rounds_succ]
  go_wp2
  go_ret
  exact ⟨rfl, by go_grown⟩
theorem row_32 (w : World) : Calls Tryd.prog 13 #[.int .u8 32] w (RetB (rowV 32) w) := by
  go_enter Tryd.func13, Tryd.ntmps13
  go_wp2_with fail
  refine (words_32 _).mono ?_
  rintro e w1 ⟨rfl, h1⟩
  have c1 := (bcell h1).1
  have c2 := (bcell h1).2
  have k : ∀ i, (w1.cell? ⟨w.heap.size, i, none⟩) = _ := fun i => (c1 w.heap.size i (by simp)).trans (World.cell?_alloc_new ..)
  go_wp2_with fail
  refine bodyPost_ret (v := rowV 32) (by simp [results, Tryd.results13, go_sem, World.cell?_setCell_same', World.cell?_setCell_other, k]; rfl) rfl ⟨rfl, ?_⟩
  go_grown
  exact ((Below.refl _ w).alloc (Nat.le_refl _) _).trans (h1.mono (by simp))
set_option maxRecDepth 100000 in
theorem words_33 (w : World) : Calls Tryd.prog 31 #[.int .u8 33] w (RetB (.string (wordK 33)) w) := by
  go_enter Tryd.func31, Tryd.ntmps31
  go_wp2
  refine wp_loop_rounds 3 ?_
  generalize h : ByteArray.extract _ _ _ = s5
  have h2 : s5 = ⟨#[110, 101, 32, 32]⟩ := h ▸ (by rfl)
  clear h
  subst h2
  rw [rounds_succ]
  go_wp2
  generalize h : ByteArray.extract _ _ _ = s5
  have h2 : s5 = ⟨#[110, 101, 32]⟩ := h ▸ (by rfl)
  clear h
  subst h2
  rw [rounds_succ]
  go_wp2
  generalize h : ByteArray.extract _ _ _ = s5
  have h2 : s5 = ⟨#[110, 101]⟩ := h ▸ (by rfl)
  clear h
  subst h2
  rw [rounds_succ]
  go_wp2
  go_ret
  exact ⟨rfl, by go_grown⟩
theorem row_33 (w : World) : Calls Tryd.prog 13 #[.int .u8 33] w (RetB (rowV 33) w) := by
  go_enter Tryd.func13, Tryd.ntmps13
  go_wp2_with fail
  refine (words_33 _).mono ?_
  rintro e w1 ⟨rfl, h1⟩
  have c1 := (bcell h1).1
  have c2 := (bcell h1).2
  have k : ∀ i, (w1.cell? ⟨w.heap.size, i, none⟩) = _ := fun i => (c1 w.heap.size i (by simp)).trans (World.cell?_alloc_new ..)
  go_wp2_with fail
  refine bodyPost_ret (v := rowV 33) (by simp [results, Tryd.results13, go_sem, World.cell?_setCell_same', World.cell?_setCell_other, k]; rfl) rfl ⟨rfl, ?_⟩
  go_grown
  exact ((Below.refl _ w).alloc (Nat.le_refl _) _).trans (h1.mono (by simp))
set_option maxRecDepth 100000 in
theorem words_34 (w : World) : Calls Tryd.prog 31 #[.int .u8 34] w (RetB (.string (wordK 34)) w) := by
  go_enter Tryd.func31, Tryd.ntmps31
  go_wp2
  refine wp_loop_rounds 3 ?_
  generalize h : ByteArray.extract _ _ _ = s5
  have h2 : s5 = ⟨#[108, 116, 32, 32]⟩ := h ▸ (by rfl)
  clear h
  subst h2
  rw [rounds_succ]
  go_wp2
  generalize h : ByteArray.extract _ _ _ = s5
  have h2 : s5 = ⟨#[108, 116, 32]⟩ := h ▸ (by rfl)
  clear h
  subst h2
  rw [rounds_succ]
  go_wp2
  generalize h : ByteArray.extract _ _ _ = s5
  have h2 : s5 = ⟨#[108, 116]⟩ := h ▸ (by rfl)
  clear h
  subst h2
  rw [rounds_succ]
  go_wp2
  go_ret
  exact ⟨rfl, by go_grown⟩
theorem row_34 (w : World) : Calls Tryd.prog 13 #[.int .u8 34] w (RetB (rowV 34) w) := by
  go_enter Tryd.func13, Tryd.ntmps13
  go_wp2_with fail
  refine (words_34 _).mono ?_
  rintro e w1 ⟨rfl, h1⟩
  have c1 := (bcell h1).1
  have c2 := (bcell h1).2
  have k : ∀ i, (w1.cell? ⟨w.heap.size, i, none⟩) = _ := fun i => (c1 w.heap.size i (by simp)).trans (World.cell?_alloc_new ..)
  go_wp2_with fail
  refine bodyPost_ret (v := rowV 34) (by simp [results, Tryd.results13, go_sem, World.cell?_setCell_same', World.cell?_setCell_other, k]; rfl) rfl ⟨rfl, ?_⟩
  go_grown
  exact ((Below.refl _ w).alloc (Nat.le_refl _) _).trans (h1.mono (by simp))
set_option maxRecDepth 100000 in
theorem words_35 (w : World) : Calls Tryd.prog 31 #[.int .u8 35] w (RetB (.string (wordK 35)) w) := by
  go_enter Tryd.func31, Tryd.ntmps31
  go_wp2
  refine wp_loop_rounds 3 ?_
  generalize h : ByteArray.extract _ _ _ = s5
  have h2 : s5 = ⟨#[108, 101, 32, 32]⟩ := h ▸ (by rfl)
  clear h
  subst h2
  rw [rounds_succ]
  go_wp2
  generalize h : ByteArray.extract _ _ _ = s5
  have h2 : s5 = ⟨#[108, 101, 32]⟩ := h ▸ (by rfl)
  clear h
  subst h2
  rw [rounds_succ]
  go_wp2
  generalize h : ByteArray.extract _ _ _ = s5
  have h2 : s5 = ⟨#[108, 101]⟩ := h ▸ (by rfl)
  clear h
  subst h2
  rw [rounds_succ]
  go_wp2
  go_ret
  exact ⟨rfl, by go_grown⟩
theorem row_35 (w : World) : Calls Tryd.prog 13 #[.int .u8 35] w (RetB (rowV 35) w) := by
  go_enter Tryd.func13, Tryd.ntmps13
  go_wp2_with fail
  refine (words_35 _).mono ?_
  rintro e w1 ⟨rfl, h1⟩
  have c1 := (bcell h1).1
  have c2 := (bcell h1).2
  have k : ∀ i, (w1.cell? ⟨w.heap.size, i, none⟩) = _ := fun i => (c1 w.heap.size i (by simp)).trans (World.cell?_alloc_new ..)
  go_wp2_with fail
  refine bodyPost_ret (v := rowV 35) (by simp [results, Tryd.results13, go_sem, World.cell?_setCell_same', World.cell?_setCell_other, k]; rfl) rfl ⟨rfl, ?_⟩
  go_grown
  exact ((Below.refl _ w).alloc (Nat.le_refl _) _).trans (h1.mono (by simp))
set_option maxRecDepth 100000 in
theorem words_36 (w : World) : Calls Tryd.prog 31 #[.int .u8 36] w (RetB (.string (wordK 36)) w) := by
  go_enter Tryd.func31, Tryd.ntmps31
  go_wp2
  refine wp_loop_rounds 3 ?_
  generalize h : ByteArray.extract _ _ _ = s5
  have h2 : s5 = ⟨#[97, 100, 100, 32]⟩ := h ▸ (by rfl)
  clear h
  subst h2
  rw [rounds_succ]
  go_wp2
  generalize h : ByteArray.extract _ _ _ = s5
  have h2 : s5 = ⟨#[97, 100, 100]⟩ := h ▸ (by rfl)
  clear h
  subst h2
  rw [rounds_succ]
  go_wp2
  go_ret
  exact ⟨rfl, by go_grown⟩
theorem row_36 (w : World) : Calls Tryd.prog 13 #[.int .u8 36] w (RetB (rowV 36) w) := by
  go_enter Tryd.func13, Tryd.ntmps13
  go_wp2_with fail
  refine (words_36 _).mono ?_
  rintro e w1 ⟨rfl, h1⟩
  have c1 := (bcell h1).1
  have c2 := (bcell h1).2
  have k : ∀ i, (w1.cell? ⟨w.heap.size, i, none⟩) = _ := fun i => (c1 w.heap.size i (by simp)).trans (World.cell?_alloc_new ..)
  go_wp2_with fail
  refine bodyPost_ret (v := rowV 36) (by simp [results, Tryd.results13, go_sem, World.cell?_setCell_same', World.cell?_setCell_other, k]; rfl) rfl ⟨rfl, ?_⟩
  go_grown
  exact ((Below.refl _ w).alloc (Nat.le_refl _) _).trans (h1.mono (by simp))
set_option maxRecDepth 100000 in
theorem words_37 (w : World) : Calls Tryd.prog 31 #[.int .u8 37] w (RetB (.string (wordK 37)) w) := by
  go_enter Tryd.func31, Tryd.ntmps31
  go_wp2
  refine wp_loop_rounds 3 ?_
  generalize h : ByteArray.extract _ _ _ = s5
  have h2 : s5 = ⟨#[115, 117, 98, 32]⟩ := h ▸ (by rfl)
  clear h
  subst h2
  rw [rounds_succ]
  go_wp2
  generalize h : ByteArray.extract _ _ _ = s5
  have h2 : s5 = ⟨#[115, 117, 98]⟩ := h ▸ (by rfl)
  clear h
  subst h2
  rw [rounds_succ]
  go_wp2
  go_ret
  exact ⟨rfl, by go_grown⟩
theorem row_37 (w : World) : Calls Tryd.prog 13 #[.int .u8 37] w (RetB (rowV 37) w) := by
  go_enter Tryd.func13, Tryd.ntmps13
  go_wp2_with fail
  refine (words_37 _).mono ?_
  rintro e w1 ⟨rfl, h1⟩
  have c1 := (bcell h1).1
  have c2 := (bcell h1).2
  have k : ∀ i, (w1.cell? ⟨w.heap.size, i, none⟩) = _ := fun i => (c1 w.heap.size i (by simp)).trans (World.cell?_alloc_new ..)
  go_wp2_with fail
  refine bodyPost_ret (v := rowV 37) (by simp [results, Tryd.results13, go_sem, World.cell?_setCell_same', World.cell?_setCell_other, k]; rfl) rfl ⟨rfl, ?_⟩
  go_grown
  exact ((Below.refl _ w).alloc (Nat.le_refl _) _).trans (h1.mono (by simp))
set_option maxRecDepth 100000 in
theorem words_38 (w : World) : Calls Tryd.prog 31 #[.int .u8 38] w (RetB (.string (wordK 38)) w) := by
  go_enter Tryd.func31, Tryd.ntmps31
  go_wp2
  refine wp_loop_rounds 3 ?_
  generalize h : ByteArray.extract _ _ _ = s5
  have h2 : s5 = ⟨#[109, 117, 108, 32]⟩ := h ▸ (by rfl)
  clear h
  subst h2
  rw [rounds_succ]
  go_wp2
  generalize h : ByteArray.extract _ _ _ = s5
  have h2 : s5 = ⟨#[109, 117, 108]⟩ := h ▸ (by rfl)
  clear h
  subst h2
  rw [rounds_succ]
  go_wp2
  go_ret
  exact ⟨rfl, by go_grown⟩
theorem row_38 (w : World) : Calls Tryd.prog 13 #[.int .u8 38] w (RetB (rowV 38) w) := by
  go_enter Tryd.func13, Tryd.ntmps13
  go_wp2_with fail
  refine (words_38 _).mono ?_
  rintro e w1 ⟨rfl, h1⟩
  have c1 := (bcell h1).1
  have c2 := (bcell h1).2
  have k : ∀ i, (w1.cell? ⟨w.heap.size, i, none⟩) = _ := fun i => (c1 w.heap.size i (by simp)).trans (World.cell?_alloc_new ..)
  go_wp2_with fail
  refine bodyPost_ret (v := rowV 38) (by simp [results, Tryd.results13, go_sem, World.cell?_setCell_same', World.cell?_setCell_other, k]; rfl) rfl ⟨rfl, ?_⟩
  go_grown
  exact ((Below.refl _ w).alloc (Nat.le_refl _) _).trans (h1.mono (by simp))
set_option maxRecDepth 100000 in
theorem words_39 (w : World) : Calls Tryd.prog 31 #[.int .u8 39] w (RetB (.string (wordK 39)) w) := by
  go_enter Tryd.func31, Tryd.ntmps31
  go_wp2
  refine wp_loop_rounds 3 ?_
  generalize h : ByteArray.extract _ _ _ = s5
  have h2 : s5 = ⟨#[100, 105, 118, 32]⟩ := h ▸ (by rfl)
  clear h
  subst h2
  rw [rounds_succ]
  go_wp2
  generalize h : ByteArray.extract _ _ _ = s5
  have h2 : s5 = ⟨#[100, 105, 118]⟩ := h ▸ (by rfl)
  clear h
  subst h2
  rw [rounds_succ]
  go_wp2
  go_ret
  exact ⟨rfl, by go_grown⟩
theorem row_39 (w : World) : Calls Tryd.prog 13 #[.int .u8 39] w (RetB (rowV 39) w) := by
  go_enter Tryd.func13, Tryd.ntmps13
  go_wp2_with fail
  refine (words_39 _).mono ?_
  rintro e w1 ⟨rfl, h1⟩
  have c1 := (bcell h1).1
  have c2 := (bcell h1).2
  have k : ∀ i, (w1.cell? ⟨w.heap.size, i, none⟩) = _ := fun i => (c1 w.heap.size i (by simp)).trans (World.cell?_alloc_new ..)
  go_wp2_with fail
  refine bodyPost_ret (v := rowV 39) (by simp [results, Tryd.results13, go_sem, World.cell?_setCell_same', World.cell?_setCell_other, k]; rfl) rfl ⟨rfl, ?_⟩
  go_grown
  exact ((Below.refl _ w).alloc (Nat.le_refl _) _).trans (h1.mono (by simp))
set_option maxRecDepth 100000 in
theorem words_40 (w : World) : Calls Tryd.prog 31 #[.int .u8 40] w (RetB (.string (wordK 40)) w) := by
  go_enter Tryd.func31, Tryd.ntmps31
  go_wp2
  refine wp_loop_rounds 3 ?_
  generalize h : ByteArray.extract _ _ _ = s5
  have h2 : s5 = ⟨#[109, 111, 100, 32]⟩ := h ▸ (by rfl)
  clear h
  subst h2
  rw [rounds_succ]
  go_wp2
  generalize h : ByteArray.extract _ _ _ = s5
  have h2 : s5 = ⟨#[109, 111, 100]⟩ := h ▸ (by rfl)
  clear h
  subst h2
  rw [rounds_succ]
  go_wp2
  go_ret
  exact ⟨rfl, by go_grown⟩
theorem row_40 (w : World) : Calls Tryd.prog 13 #[.int .u8 40] w (RetB (rowV 40) w) := by
  go_enter Tryd.func13, Tryd.ntmps13
  go_wp2_with fail
  refine (words_40 _).mono ?_
  rintro e w1 ⟨rfl, h1⟩
  have c1 := (bcell h1).1
  have c2 := (bcell h1).2
  have k : ∀ i, (w1.cell? ⟨w.heap.size, i, none⟩) = _ := fun i => (c1 w.heap.size i (by simp)).trans (World.cell?_alloc_new ..)
  go_wp2_with fail
  refine bodyPost_ret (v := rowV 40) (by simp [results, Tryd.results13, go_sem, World.cell?_setCell_same', World.cell?_setCell_other, k]; rfl) rfl ⟨rfl, ?_⟩
  go_grown
  exact ((Below.refl _ w).alloc (Nat.le_refl _) _).trans (h1.mono (by simp))
set_option maxRecDepth 100000 in
theorem words_41 (w : World) : Calls Tryd.prog 31 #[.int .u8 41] w (RetB (.string (wordK 41)) w) := by
  go_enter Tryd.func31, Tryd.ntmps31
  go_wp2
  refine wp_loop_rounds 3 ?_
  generalize h : ByteArray.extract _ _ _ = s5
  have h2 : s5 = ⟨#[110, 117, 109, 32]⟩ := h ▸ (by rfl)
  clear h
  subst h2
  rw [rounds_succ]
  go_wp2
  generalize h : ByteArray.extract _ _ _ = s5
  have h2 : s5 = ⟨#[110, 117, 109]⟩ := h ▸ (by rfl)
  clear h
  subst h2
  rw [rounds_succ]
  go_wp2
  go_ret
  exact ⟨rfl, by go_grown⟩
theorem row_41 (w : World) : Calls Tryd.prog 13 #[.int .u8 41] w (RetB (rowV 41) w) := by
  go_enter Tryd.func13, Tryd.ntmps13
  go_wp2_with fail
  refine (words_41 _).mono ?_
  rintro e w1 ⟨rfl, h1⟩
  have c1 := (bcell h1).1
  have c2 := (bcell h1).2
  have k : ∀ i, (w1.cell? ⟨w.heap.size, i, none⟩) = _ := fun i => (c1 w.heap.size i (by simp)).trans (World.cell?_alloc_new ..)
  go_wp2_with fail
  refine bodyPost_ret (v := rowV 41) (by simp [results, Tryd.results13, go_sem, World.cell?_setCell_same', World.cell?_setCell_other, k]; rfl) rfl ⟨rfl, ?_⟩
  go_grown
  exact ((Below.refl _ w).alloc (Nat.le_refl _) _).trans (h1.mono (by simp))
set_option maxRecDepth 100000 in
theorem words_42 (w : World) : Calls Tryd.prog 31 #[.int .u8 42] w (RetB (.string (wordK 42)) w) := by
  go_enter Tryd.func31, Tryd.ntmps31
  go_wp2
  refine wp_loop_rounds 3 ?_
  generalize h : ByteArray.extract _ _ _ = s5
  have h2 : s5 = ⟨#[97, 116, 32, 32]⟩ := h ▸ (by rfl)
  clear h
  subst h2
  rw [rounds_succ]
  go_wp2
  generalize h : ByteArray.extract _ _ _ = s5
  have h2 : s5 = ⟨#[97, 116, 32]⟩ := h ▸ (by rfl)
  clear h
  subst h2
  rw [rounds_succ]
  go_wp2
  generalize h : ByteArray.extract _ _ _ = s5
  have h2 : s5 = ⟨#[97, 116]⟩ := h ▸ (by rfl)
  clear h
  subst h2
  rw [rounds_succ]
  go_wp2
  go_ret
  exact ⟨rfl, by go_grown⟩
theorem row_42 (w : World) : Calls Tryd.prog 13 #[.int .u8 42] w (RetB (rowV 42) w) := by
  go_enter Tryd.func13, Tryd.ntmps13
  go_wp2_with fail
  refine (words_42 _).mono ?_
  rintro e w1 ⟨rfl, h1⟩
  have c1 := (bcell h1).1
  have c2 := (bcell h1).2
  have k : ∀ i, (w1.cell? ⟨w.heap.size, i, none⟩) = _ := fun i => (c1 w.heap.size i (by simp)).trans (World.cell?_alloc_new ..)
  go_wp2_with fail
  refine bodyPost_ret (v := rowV 42) (by simp [results, Tryd.results13, go_sem, World.cell?_setCell_same', World.cell?_setCell_other, k]; rfl) rfl ⟨rfl, ?_⟩
  go_grown
  exact ((Below.refl _ w).alloc (Nat.le_refl _) _).trans (h1.mono (by simp))
set_option maxRecDepth 100000 in
theorem words_43 (w : World) : Calls Tryd.prog 31 #[.int .u8 43] w (RetB (.string (wordK 43)) w) := by
  go_enter Tryd.func31, Tryd.ntmps31
  go_wp2
  refine wp_loop_rounds 3 ?_
  generalize h : ByteArray.extract _ _ _ = s5
  have h2 : s5 = ⟨#[110, 111, 116, 32]⟩ := h ▸ (by rfl)
  clear h
  subst h2
  rw [rounds_succ]
  go_wp2
  generalize h : ByteArray.extract _ _ _ = s5
  have h2 : s5 = ⟨#[110, 111, 116]⟩ := h ▸ (by rfl)
  clear h
  subst h2
  rw [rounds_succ]
  go_wp2
  go_ret
  exact ⟨rfl, by go_grown⟩
theorem row_43 (w : World) : Calls Tryd.prog 13 #[.int .u8 43] w (RetB (rowV 43) w) := by
  go_enter Tryd.func13, Tryd.ntmps13
  go_wp2_with fail
  refine (words_43 _).mono ?_
  rintro e w1 ⟨rfl, h1⟩
  have c1 := (bcell h1).1
  have c2 := (bcell h1).2
  have k : ∀ i, (w1.cell? ⟨w.heap.size, i, none⟩) = _ := fun i => (c1 w.heap.size i (by simp)).trans (World.cell?_alloc_new ..)
  go_wp2_with fail
  refine bodyPost_ret (v := rowV 43) (by simp [results, Tryd.results13, go_sem, World.cell?_setCell_same', World.cell?_setCell_other, k]; rfl) rfl ⟨rfl, ?_⟩
  go_grown
  exact ((Below.refl _ w).alloc (Nat.le_refl _) _).trans (h1.mono (by simp))
set_option maxRecDepth 100000 in
theorem words_44 (w : World) : Calls Tryd.prog 31 #[.int .u8 44] w (RetB (.string (wordK 44)) w) := by
  go_enter Tryd.func31, Tryd.ntmps31
  go_wp2
  refine wp_loop_rounds 3 ?_
  generalize h : ByteArray.extract _ _ _ = s5
  have h2 : s5 = ⟨#[110, 101, 103, 32]⟩ := h ▸ (by rfl)
  clear h
  subst h2
  rw [rounds_succ]
  go_wp2
  generalize h : ByteArray.extract _ _ _ = s5
  have h2 : s5 = ⟨#[110, 101, 103]⟩ := h ▸ (by rfl)
  clear h
  subst h2
  rw [rounds_succ]
  go_wp2
  go_ret
  exact ⟨rfl, by go_grown⟩
theorem row_44 (w : World) : Calls Tryd.prog 13 #[.int .u8 44] w (RetB (rowV 44) w) := by
  go_enter Tryd.func13, Tryd.ntmps13
  go_wp2_with fail
  refine (words_44 _).mono ?_
  rintro e w1 ⟨rfl, h1⟩
  have c1 := (bcell h1).1
  have c2 := (bcell h1).2
  have k : ∀ i, (w1.cell? ⟨w.heap.size, i, none⟩) = _ := fun i => (c1 w.heap.size i (by simp)).trans (World.cell?_alloc_new ..)
  go_wp2_with fail
  refine bodyPost_ret (v := rowV 44) (by simp [results, Tryd.results13, go_sem, World.cell?_setCell_same', World.cell?_setCell_other, k]; rfl) rfl ⟨rfl, ?_⟩
  go_grown
  exact ((Below.refl _ w).alloc (Nat.le_refl _) _).trans (h1.mono (by simp))
set_option maxRecDepth 100000 in
theorem words_45 (w : World) : Calls Tryd.prog 31 #[.int .u8 45] w (RetB (.string (wordK 45)) w) := by
  go_enter Tryd.func31, Tryd.ntmps31
  go_wp2
  refine wp_loop_rounds 3 ?_
  generalize h : ByteArray.extract _ _ _ = s5
  have h2 : s5 = ⟨#[108, 101, 110, 32]⟩ := h ▸ (by rfl)
  clear h
  subst h2
  rw [rounds_succ]
  go_wp2
  generalize h : ByteArray.extract _ _ _ = s5
  have h2 : s5 = ⟨#[108, 101, 110]⟩ := h ▸ (by rfl)
  clear h
  subst h2
  rw [rounds_succ]
  go_wp2
  go_ret
  exact ⟨rfl, by go_grown⟩
theorem row_45 (w : World) : Calls Tryd.prog 13 #[.int .u8 45] w (RetB (rowV 45) w) := by
  go_enter Tryd.func13, Tryd.ntmps13
  go_wp2_with fail
  refine (words_45 _).mono ?_
  rintro e w1 ⟨rfl, h1⟩
  have c1 := (bcell h1).1
  have c2 := (bcell h1).2
  have k : ∀ i, (w1.cell? ⟨w.heap.size, i, none⟩) = _ := fun i => (c1 w.heap.size i (by simp)).trans (World.cell?_alloc_new ..)
  go_wp2_with fail
  refine bodyPost_ret (v := rowV 45) (by simp [results, Tryd.results13, go_sem, World.cell?_setCell_same', World.cell?_setCell_other, k]; rfl) rfl ⟨rfl, ?_⟩
  go_grown
  exact ((Below.refl _ w).alloc (Nat.le_refl _) _).trans (h1.mono (by simp))
set_option maxRecDepth 100000 in
theorem words_46 (w : World) : Calls Tryd.prog 31 #[.int .u8 46] w (RetB (.string (wordK 46)) w) := by
  go_enter Tryd.func31, Tryd.ntmps31
  go_wp2
  refine wp_loop_rounds 3 ?_
  generalize h : ByteArray.extract _ _ _ = s5
  have h2 : s5 = ⟨#[114, 101, 32, 32]⟩ := h ▸ (by rfl)
  clear h
  subst h2
  rw [rounds_succ]
  go_wp2
  generalize h : ByteArray.extract _ _ _ = s5
  have h2 : s5 = ⟨#[114, 101, 32]⟩ := h ▸ (by rfl)
  clear h
  subst h2
  rw [rounds_succ]
  go_wp2
  generalize h : ByteArray.extract _ _ _ = s5
  have h2 : s5 = ⟨#[114, 101]⟩ := h ▸ (by rfl)
  clear h
  subst h2
  rw [rounds_succ]
  go_wp2
  go_ret
  exact ⟨rfl, by go_grown⟩
theorem row_46 (w : World) : Calls Tryd.prog 13 #[.int .u8 46] w (RetB (rowV 46) w) := by
  go_enter Tryd.func13, Tryd.ntmps13
  go_wp2_with fail
  refine (words_46 _).mono ?_
  rintro e w1 ⟨rfl, h1⟩
  have c1 := (bcell h1).1
  have c2 := (bcell h1).2
  have k : ∀ i, (w1.cell? ⟨w.heap.size, i, none⟩) = _ := fun i => (c1 w.heap.size i (by simp)).trans (World.cell?_alloc_new ..)
  go_wp2_with fail
  refine bodyPost_ret (v := rowV 46) (by simp [results, Tryd.results13, go_sem, World.cell?_setCell_same', World.cell?_setCell_other, k]; rfl) rfl ⟨rfl, ?_⟩
  go_grown
  exact ((Below.refl _ w).alloc (Nat.le_refl _) _).trans (h1.mono (by simp))
set_option maxRecDepth 100000 in
theorem words_47 (w : World) : Calls Tryd.prog 31 #[.int .u8 47] w (RetB (.string (wordK 47)) w) := by
  go_enter Tryd.func31, Tryd.ntmps31
  go_wp2
  refine wp_loop_rounds 3 ?_
  generalize h : ByteArray.extract _ _ _ = s5
  have h2 : s5 = ⟨#[105, 109, 32, 32]⟩ := h ▸ (by rfl)
  clear h
  subst h2
  rw [rounds_succ]
  go_wp2
  generalize h : ByteArray.extract _ _ _ = s5
  have h2 : s5 = ⟨#[105, 109, 32]⟩ := h ▸ (by rfl)
  clear h
  subst h2
  rw [rounds_succ]
  go_wp2
  generalize h : ByteArray.extract _ _ _ = s5
  have h2 : s5 = ⟨#[105, 109]⟩ := h ▸ (by rfl)
  clear h
  subst h2
  rw [rounds_succ]
  go_wp2
  go_ret
  exact ⟨rfl, by go_grown⟩
theorem row_47 (w : World) : Calls Tryd.prog 13 #[.int .u8 47] w (RetB (rowV 47) w) := by
  go_enter Tryd.func13, Tryd.ntmps13
  go_wp2_with fail
  refine (words_47 _).mono ?_
  rintro e w1 ⟨rfl, h1⟩
  have c1 := (bcell h1).1
  have c2 := (bcell h1).2
  have k : ∀ i, (w1.cell? ⟨w.heap.size, i, none⟩) = _ := fun i => (c1 w.heap.size i (by simp)).trans (World.cell?_alloc_new ..)
  go_wp2_with fail
  refine bodyPost_ret (v := rowV 47) (by simp [results, Tryd.results13, go_sem, World.cell?_setCell_same', World.cell?_setCell_other, k]; rfl) rfl ⟨rfl, ?_⟩
  go_grown
  exact ((Below.refl _ w).alloc (Nat.le_refl _) _).trans (h1.mono (by simp))
end Go.Proofs.YtefijgdbnjmifaaDoor
