/- The table of instructions, walked: part 2. Printed by a program. -/
import Derived.Test.YtjfdokoigkdciaaInstrT
namespace Go.Proofs.Ytjfdokoigkdciaa
open Go.RowKit

set_option maxRecDepth 100000 in
theorem plain_32 (w : World) : Calls Try.prog 29 #[.int .u8 32] w (RetB (kindV 32) w) := by
  have i0 : ∀ w, (Instr.index 88 (.agg #[.string ⟨#[101, 113]⟩, .string ⟨#[110, 101]⟩, .string ⟨#[108, 116]⟩, .string ⟨#[108, 101]⟩, .string ⟨#[97, 100, 100]⟩, .string ⟨#[115, 117, 98]⟩, .string ⟨#[109, 117, 108]⟩, .string ⟨#[100, 105, 118]⟩, .string ⟨#[109, 111, 100]⟩, .string ⟨#[110, 117, 109]⟩, .string ⟨#[97, 116]⟩, .string ⟨#[110, 111, 116]⟩, .string ⟨#[110, 101, 103]⟩, .string ⟨#[108, 101, 110]⟩, .string ⟨#[114, 101]⟩, .string ⟨#[105, 109]⟩, .string ⟨#[99, 111, 110, 106]⟩]) (.int .u8 0)).run Try.prog w = .ok (.string ⟨#[101, 113]⟩) w := fun _ => by kernel_rfl
  go_enter Try.func29, Try.ntmps29
  go_wp2
  exact bodyPost_ret (v := kindV 32) (by simp [results, Try.results29, go_sem]; rfl) rfl ⟨rfl, by go_grown⟩
theorem kind_32 (w : World) : Calls Try.prog 15 #[.int .u8 32] w (RetB (kindV 32) w) := by
  go_enter Try.func15, Try.ntmps15
  go_wp2_with fail
  refine (plain_32 _).mono ?_
  rintro e w1 ⟨rfl, h1⟩
  have c1 := (bcell h1).1
  have c2 := (bcell h1).2
  have k : ∀ i, (w1.cell? ⟨w.heap.size, i, none⟩) = _ := fun i => (c1 w.heap.size i (by simp)).trans (World.cell?_alloc_new ..)
  simp only [kindV]
  go_wp2_with fail
  refine bodyPost_ret (v := kindV 32) (by simp [results, Try.results15, go_sem, World.cell?_setCell_same', World.cell?_setCell_other, k]; rfl) rfl ⟨rfl, ?_⟩
  go_grown
  exact ((Below.refl _ w).alloc (Nat.le_refl _) _).trans (h1.mono (by simp))
set_option maxRecDepth 100000 in
theorem plain_33 (w : World) : Calls Try.prog 29 #[.int .u8 33] w (RetB (kindV 33) w) := by
  have i0 : ∀ w, (Instr.index 88 (.agg #[.string ⟨#[101, 113]⟩, .string ⟨#[110, 101]⟩, .string ⟨#[108, 116]⟩, .string ⟨#[108, 101]⟩, .string ⟨#[97, 100, 100]⟩, .string ⟨#[115, 117, 98]⟩, .string ⟨#[109, 117, 108]⟩, .string ⟨#[100, 105, 118]⟩, .string ⟨#[109, 111, 100]⟩, .string ⟨#[110, 117, 109]⟩, .string ⟨#[97, 116]⟩, .string ⟨#[110, 111, 116]⟩, .string ⟨#[110, 101, 103]⟩, .string ⟨#[108, 101, 110]⟩, .string ⟨#[114, 101]⟩, .string ⟨#[105, 109]⟩, .string ⟨#[99, 111, 110, 106]⟩]) (.int .u8 1)).run Try.prog w = .ok (.string ⟨#[110, 101]⟩) w := fun _ => by kernel_rfl
  go_enter Try.func29, Try.ntmps29
  go_wp2
  exact bodyPost_ret (v := kindV 33) (by simp [results, Try.results29, go_sem]; rfl) rfl ⟨rfl, by go_grown⟩
theorem kind_33 (w : World) : Calls Try.prog 15 #[.int .u8 33] w (RetB (kindV 33) w) := by
  go_enter Try.func15, Try.ntmps15
  go_wp2_with fail
  refine (plain_33 _).mono ?_
  rintro e w1 ⟨rfl, h1⟩
  have c1 := (bcell h1).1
  have c2 := (bcell h1).2
  have k : ∀ i, (w1.cell? ⟨w.heap.size, i, none⟩) = _ := fun i => (c1 w.heap.size i (by simp)).trans (World.cell?_alloc_new ..)
  simp only [kindV]
  go_wp2_with fail
  refine bodyPost_ret (v := kindV 33) (by simp [results, Try.results15, go_sem, World.cell?_setCell_same', World.cell?_setCell_other, k]; rfl) rfl ⟨rfl, ?_⟩
  go_grown
  exact ((Below.refl _ w).alloc (Nat.le_refl _) _).trans (h1.mono (by simp))
set_option maxRecDepth 100000 in
theorem plain_34 (w : World) : Calls Try.prog 29 #[.int .u8 34] w (RetB (kindV 34) w) := by
  have i0 : ∀ w, (Instr.index 88 (.agg #[.string ⟨#[101, 113]⟩, .string ⟨#[110, 101]⟩, .string ⟨#[108, 116]⟩, .string ⟨#[108, 101]⟩, .string ⟨#[97, 100, 100]⟩, .string ⟨#[115, 117, 98]⟩, .string ⟨#[109, 117, 108]⟩, .string ⟨#[100, 105, 118]⟩, .string ⟨#[109, 111, 100]⟩, .string ⟨#[110, 117, 109]⟩, .string ⟨#[97, 116]⟩, .string ⟨#[110, 111, 116]⟩, .string ⟨#[110, 101, 103]⟩, .string ⟨#[108, 101, 110]⟩, .string ⟨#[114, 101]⟩, .string ⟨#[105, 109]⟩, .string ⟨#[99, 111, 110, 106]⟩]) (.int .u8 2)).run Try.prog w = .ok (.string ⟨#[108, 116]⟩) w := fun _ => by kernel_rfl
  go_enter Try.func29, Try.ntmps29
  go_wp2
  exact bodyPost_ret (v := kindV 34) (by simp [results, Try.results29, go_sem]; rfl) rfl ⟨rfl, by go_grown⟩
theorem kind_34 (w : World) : Calls Try.prog 15 #[.int .u8 34] w (RetB (kindV 34) w) := by
  go_enter Try.func15, Try.ntmps15
  go_wp2_with fail
  refine (plain_34 _).mono ?_
  rintro e w1 ⟨rfl, h1⟩
  have c1 := (bcell h1).1
  have c2 := (bcell h1).2
  have k : ∀ i, (w1.cell? ⟨w.heap.size, i, none⟩) = _ := fun i => (c1 w.heap.size i (by simp)).trans (World.cell?_alloc_new ..)
  simp only [kindV]
  go_wp2_with fail
  refine bodyPost_ret (v := kindV 34) (by simp [results, Try.results15, go_sem, World.cell?_setCell_same', World.cell?_setCell_other, k]; rfl) rfl ⟨rfl, ?_⟩
  go_grown
  exact ((Below.refl _ w).alloc (Nat.le_refl _) _).trans (h1.mono (by simp))
set_option maxRecDepth 100000 in
theorem plain_35 (w : World) : Calls Try.prog 29 #[.int .u8 35] w (RetB (kindV 35) w) := by
  have i0 : ∀ w, (Instr.index 88 (.agg #[.string ⟨#[101, 113]⟩, .string ⟨#[110, 101]⟩, .string ⟨#[108, 116]⟩, .string ⟨#[108, 101]⟩, .string ⟨#[97, 100, 100]⟩, .string ⟨#[115, 117, 98]⟩, .string ⟨#[109, 117, 108]⟩, .string ⟨#[100, 105, 118]⟩, .string ⟨#[109, 111, 100]⟩, .string ⟨#[110, 117, 109]⟩, .string ⟨#[97, 116]⟩, .string ⟨#[110, 111, 116]⟩, .string ⟨#[110, 101, 103]⟩, .string ⟨#[108, 101, 110]⟩, .string ⟨#[114, 101]⟩, .string ⟨#[105, 109]⟩, .string ⟨#[99, 111, 110, 106]⟩]) (.int .u8 3)).run Try.prog w = .ok (.string ⟨#[108, 101]⟩) w := fun _ => by kernel_rfl
  go_enter Try.func29, Try.ntmps29
  go_wp2
  exact bodyPost_ret (v := kindV 35) (by simp [results, Try.results29, go_sem]; rfl) rfl ⟨rfl, by go_grown⟩
theorem kind_35 (w : World) : Calls Try.prog 15 #[.int .u8 35] w (RetB (kindV 35) w) := by
  go_enter Try.func15, Try.ntmps15
  go_wp2_with fail
  refine (plain_35 _).mono ?_
  rintro e w1 ⟨rfl, h1⟩
  have c1 := (bcell h1).1
  have c2 := (bcell h1).2
  have k : ∀ i, (w1.cell? ⟨w.heap.size, i, none⟩) = _ := fun i => (c1 w.heap.size i (by simp)).trans (World.cell?_alloc_new ..)
  simp only [kindV]
  go_wp2_with fail
  refine bodyPost_ret (v := kindV 35) (by simp [results, Try.results15, go_sem, World.cell?_setCell_same', World.cell?_setCell_other, k]; rfl) rfl ⟨rfl, ?_⟩
  go_grown
  exact ((Below.refl _ w).alloc (Nat.le_refl _) _).trans (h1.mono (by simp))
set_option maxRecDepth 100000 in
theorem plain_36 (w : World) : Calls Try.prog 29 #[.int .u8 36] w (RetB (kindV 36) w) := by
  have i0 : ∀ w, (Instr.index 88 (.agg #[.string ⟨#[101, 113]⟩, .string ⟨#[110, 101]⟩, .string ⟨#[108, 116]⟩, .string ⟨#[108, 101]⟩, .string ⟨#[97, 100, 100]⟩, .string ⟨#[115, 117, 98]⟩, .string ⟨#[109, 117, 108]⟩, .string ⟨#[100, 105, 118]⟩, .string ⟨#[109, 111, 100]⟩, .string ⟨#[110, 117, 109]⟩, .string ⟨#[97, 116]⟩, .string ⟨#[110, 111, 116]⟩, .string ⟨#[110, 101, 103]⟩, .string ⟨#[108, 101, 110]⟩, .string ⟨#[114, 101]⟩, .string ⟨#[105, 109]⟩, .string ⟨#[99, 111, 110, 106]⟩]) (.int .u8 4)).run Try.prog w = .ok (.string ⟨#[97, 100, 100]⟩) w := fun _ => by kernel_rfl
  go_enter Try.func29, Try.ntmps29
  go_wp2
  exact bodyPost_ret (v := kindV 36) (by simp [results, Try.results29, go_sem]; rfl) rfl ⟨rfl, by go_grown⟩
theorem kind_36 (w : World) : Calls Try.prog 15 #[.int .u8 36] w (RetB (kindV 36) w) := by
  go_enter Try.func15, Try.ntmps15
  go_wp2_with fail
  refine (plain_36 _).mono ?_
  rintro e w1 ⟨rfl, h1⟩
  have c1 := (bcell h1).1
  have c2 := (bcell h1).2
  have k : ∀ i, (w1.cell? ⟨w.heap.size, i, none⟩) = _ := fun i => (c1 w.heap.size i (by simp)).trans (World.cell?_alloc_new ..)
  simp only [kindV]
  go_wp2_with fail
  refine bodyPost_ret (v := kindV 36) (by simp [results, Try.results15, go_sem, World.cell?_setCell_same', World.cell?_setCell_other, k]; rfl) rfl ⟨rfl, ?_⟩
  go_grown
  exact ((Below.refl _ w).alloc (Nat.le_refl _) _).trans (h1.mono (by simp))
set_option maxRecDepth 100000 in
theorem plain_37 (w : World) : Calls Try.prog 29 #[.int .u8 37] w (RetB (kindV 37) w) := by
  have i0 : ∀ w, (Instr.index 88 (.agg #[.string ⟨#[101, 113]⟩, .string ⟨#[110, 101]⟩, .string ⟨#[108, 116]⟩, .string ⟨#[108, 101]⟩, .string ⟨#[97, 100, 100]⟩, .string ⟨#[115, 117, 98]⟩, .string ⟨#[109, 117, 108]⟩, .string ⟨#[100, 105, 118]⟩, .string ⟨#[109, 111, 100]⟩, .string ⟨#[110, 117, 109]⟩, .string ⟨#[97, 116]⟩, .string ⟨#[110, 111, 116]⟩, .string ⟨#[110, 101, 103]⟩, .string ⟨#[108, 101, 110]⟩, .string ⟨#[114, 101]⟩, .string ⟨#[105, 109]⟩, .string ⟨#[99, 111, 110, 106]⟩]) (.int .u8 5)).run Try.prog w = .ok (.string ⟨#[115, 117, 98]⟩) w := fun _ => by kernel_rfl
  go_enter Try.func29, Try.ntmps29
  go_wp2
  exact bodyPost_ret (v := kindV 37) (by simp [results, Try.results29, go_sem]; rfl) rfl ⟨rfl, by go_grown⟩
theorem kind_37 (w : World) : Calls Try.prog 15 #[.int .u8 37] w (RetB (kindV 37) w) := by
  go_enter Try.func15, Try.ntmps15
  go_wp2_with fail
  refine (plain_37 _).mono ?_
  rintro e w1 ⟨rfl, h1⟩
  have c1 := (bcell h1).1
  have c2 := (bcell h1).2
  have k : ∀ i, (w1.cell? ⟨w.heap.size, i, none⟩) = _ := fun i => (c1 w.heap.size i (by simp)).trans (World.cell?_alloc_new ..)
  simp only [kindV]
  go_wp2_with fail
  refine bodyPost_ret (v := kindV 37) (by simp [results, Try.results15, go_sem, World.cell?_setCell_same', World.cell?_setCell_other, k]; rfl) rfl ⟨rfl, ?_⟩
  go_grown
  exact ((Below.refl _ w).alloc (Nat.le_refl _) _).trans (h1.mono (by simp))
set_option maxRecDepth 100000 in
theorem plain_38 (w : World) : Calls Try.prog 29 #[.int .u8 38] w (RetB (kindV 38) w) := by
  have i0 : ∀ w, (Instr.index 88 (.agg #[.string ⟨#[101, 113]⟩, .string ⟨#[110, 101]⟩, .string ⟨#[108, 116]⟩, .string ⟨#[108, 101]⟩, .string ⟨#[97, 100, 100]⟩, .string ⟨#[115, 117, 98]⟩, .string ⟨#[109, 117, 108]⟩, .string ⟨#[100, 105, 118]⟩, .string ⟨#[109, 111, 100]⟩, .string ⟨#[110, 117, 109]⟩, .string ⟨#[97, 116]⟩, .string ⟨#[110, 111, 116]⟩, .string ⟨#[110, 101, 103]⟩, .string ⟨#[108, 101, 110]⟩, .string ⟨#[114, 101]⟩, .string ⟨#[105, 109]⟩, .string ⟨#[99, 111, 110, 106]⟩]) (.int .u8 6)).run Try.prog w = .ok (.string ⟨#[109, 117, 108]⟩) w := fun _ => by kernel_rfl
  go_enter Try.func29, Try.ntmps29
  go_wp2
  exact bodyPost_ret (v := kindV 38) (by simp [results, Try.results29, go_sem]; rfl) rfl ⟨rfl, by go_grown⟩
theorem kind_38 (w : World) : Calls Try.prog 15 #[.int .u8 38] w (RetB (kindV 38) w) := by
  go_enter Try.func15, Try.ntmps15
  go_wp2_with fail
  refine (plain_38 _).mono ?_
  rintro e w1 ⟨rfl, h1⟩
  have c1 := (bcell h1).1
  have c2 := (bcell h1).2
  have k : ∀ i, (w1.cell? ⟨w.heap.size, i, none⟩) = _ := fun i => (c1 w.heap.size i (by simp)).trans (World.cell?_alloc_new ..)
  simp only [kindV]
  go_wp2_with fail
  refine bodyPost_ret (v := kindV 38) (by simp [results, Try.results15, go_sem, World.cell?_setCell_same', World.cell?_setCell_other, k]; rfl) rfl ⟨rfl, ?_⟩
  go_grown
  exact ((Below.refl _ w).alloc (Nat.le_refl _) _).trans (h1.mono (by simp))
set_option maxRecDepth 100000 in
theorem plain_39 (w : World) : Calls Try.prog 29 #[.int .u8 39] w (RetB (kindV 39) w) := by
  have i0 : ∀ w, (Instr.index 88 (.agg #[.string ⟨#[101, 113]⟩, .string ⟨#[110, 101]⟩, .string ⟨#[108, 116]⟩, .string ⟨#[108, 101]⟩, .string ⟨#[97, 100, 100]⟩, .string ⟨#[115, 117, 98]⟩, .string ⟨#[109, 117, 108]⟩, .string ⟨#[100, 105, 118]⟩, .string ⟨#[109, 111, 100]⟩, .string ⟨#[110, 117, 109]⟩, .string ⟨#[97, 116]⟩, .string ⟨#[110, 111, 116]⟩, .string ⟨#[110, 101, 103]⟩, .string ⟨#[108, 101, 110]⟩, .string ⟨#[114, 101]⟩, .string ⟨#[105, 109]⟩, .string ⟨#[99, 111, 110, 106]⟩]) (.int .u8 7)).run Try.prog w = .ok (.string ⟨#[100, 105, 118]⟩) w := fun _ => by kernel_rfl
  go_enter Try.func29, Try.ntmps29
  go_wp2
  exact bodyPost_ret (v := kindV 39) (by simp [results, Try.results29, go_sem]; rfl) rfl ⟨rfl, by go_grown⟩
theorem kind_39 (w : World) : Calls Try.prog 15 #[.int .u8 39] w (RetB (kindV 39) w) := by
  go_enter Try.func15, Try.ntmps15
  go_wp2_with fail
  refine (plain_39 _).mono ?_
  rintro e w1 ⟨rfl, h1⟩
  have c1 := (bcell h1).1
  have c2 := (bcell h1).2
  have k : ∀ i, (w1.cell? ⟨w.heap.size, i, none⟩) = _ := fun i => (c1 w.heap.size i (by simp)).trans (World.cell?_alloc_new ..)
  simp only [kindV]
  go_wp2_with fail
  refine bodyPost_ret (v := kindV 39) (by simp [results, Try.results15, go_sem, World.cell?_setCell_same', World.cell?_setCell_other, k]; rfl) rfl ⟨rfl, ?_⟩
  go_grown
  exact ((Below.refl _ w).alloc (Nat.le_refl _) _).trans (h1.mono (by simp))
set_option maxRecDepth 100000 in
theorem plain_40 (w : World) : Calls Try.prog 29 #[.int .u8 40] w (RetB (kindV 40) w) := by
  have i0 : ∀ w, (Instr.index 88 (.agg #[.string ⟨#[101, 113]⟩, .string ⟨#[110, 101]⟩, .string ⟨#[108, 116]⟩, .string ⟨#[108, 101]⟩, .string ⟨#[97, 100, 100]⟩, .string ⟨#[115, 117, 98]⟩, .string ⟨#[109, 117, 108]⟩, .string ⟨#[100, 105, 118]⟩, .string ⟨#[109, 111, 100]⟩, .string ⟨#[110, 117, 109]⟩, .string ⟨#[97, 116]⟩, .string ⟨#[110, 111, 116]⟩, .string ⟨#[110, 101, 103]⟩, .string ⟨#[108, 101, 110]⟩, .string ⟨#[114, 101]⟩, .string ⟨#[105, 109]⟩, .string ⟨#[99, 111, 110, 106]⟩]) (.int .u8 8)).run Try.prog w = .ok (.string ⟨#[109, 111, 100]⟩) w := fun _ => by kernel_rfl
  go_enter Try.func29, Try.ntmps29
  go_wp2
  exact bodyPost_ret (v := kindV 40) (by simp [results, Try.results29, go_sem]; rfl) rfl ⟨rfl, by go_grown⟩
theorem kind_40 (w : World) : Calls Try.prog 15 #[.int .u8 40] w (RetB (kindV 40) w) := by
  go_enter Try.func15, Try.ntmps15
  go_wp2_with fail
  refine (plain_40 _).mono ?_
  rintro e w1 ⟨rfl, h1⟩
  have c1 := (bcell h1).1
  have c2 := (bcell h1).2
  have k : ∀ i, (w1.cell? ⟨w.heap.size, i, none⟩) = _ := fun i => (c1 w.heap.size i (by simp)).trans (World.cell?_alloc_new ..)
  simp only [kindV]
  go_wp2_with fail
  refine bodyPost_ret (v := kindV 40) (by simp [results, Try.results15, go_sem, World.cell?_setCell_same', World.cell?_setCell_other, k]; rfl) rfl ⟨rfl, ?_⟩
  go_grown
  exact ((Below.refl _ w).alloc (Nat.le_refl _) _).trans (h1.mono (by simp))
set_option maxRecDepth 100000 in
theorem plain_41 (w : World) : Calls Try.prog 29 #[.int .u8 41] w (RetB (kindV 41) w) := by
  have i0 : ∀ w, (Instr.index 88 (.agg #[.string ⟨#[101, 113]⟩, .string ⟨#[110, 101]⟩, .string ⟨#[108, 116]⟩, .string ⟨#[108, 101]⟩, .string ⟨#[97, 100, 100]⟩, .string ⟨#[115, 117, 98]⟩, .string ⟨#[109, 117, 108]⟩, .string ⟨#[100, 105, 118]⟩, .string ⟨#[109, 111, 100]⟩, .string ⟨#[110, 117, 109]⟩, .string ⟨#[97, 116]⟩, .string ⟨#[110, 111, 116]⟩, .string ⟨#[110, 101, 103]⟩, .string ⟨#[108, 101, 110]⟩, .string ⟨#[114, 101]⟩, .string ⟨#[105, 109]⟩, .string ⟨#[99, 111, 110, 106]⟩]) (.int .u8 9)).run Try.prog w = .ok (.string ⟨#[110, 117, 109]⟩) w := fun _ => by kernel_rfl
  go_enter Try.func29, Try.ntmps29
  go_wp2
  exact bodyPost_ret (v := kindV 41) (by simp [results, Try.results29, go_sem]; rfl) rfl ⟨rfl, by go_grown⟩
theorem kind_41 (w : World) : Calls Try.prog 15 #[.int .u8 41] w (RetB (kindV 41) w) := by
  go_enter Try.func15, Try.ntmps15
  go_wp2_with fail
  refine (plain_41 _).mono ?_
  rintro e w1 ⟨rfl, h1⟩
  have c1 := (bcell h1).1
  have c2 := (bcell h1).2
  have k : ∀ i, (w1.cell? ⟨w.heap.size, i, none⟩) = _ := fun i => (c1 w.heap.size i (by simp)).trans (World.cell?_alloc_new ..)
  simp only [kindV]
  go_wp2_with fail
  refine bodyPost_ret (v := kindV 41) (by simp [results, Try.results15, go_sem, World.cell?_setCell_same', World.cell?_setCell_other, k]; rfl) rfl ⟨rfl, ?_⟩
  go_grown
  exact ((Below.refl _ w).alloc (Nat.le_refl _) _).trans (h1.mono (by simp))
set_option maxRecDepth 100000 in
theorem plain_42 (w : World) : Calls Try.prog 29 #[.int .u8 42] w (RetB (kindV 42) w) := by
  have i0 : ∀ w, (Instr.index 88 (.agg #[.string ⟨#[101, 113]⟩, .string ⟨#[110, 101]⟩, .string ⟨#[108, 116]⟩, .string ⟨#[108, 101]⟩, .string ⟨#[97, 100, 100]⟩, .string ⟨#[115, 117, 98]⟩, .string ⟨#[109, 117, 108]⟩, .string ⟨#[100, 105, 118]⟩, .string ⟨#[109, 111, 100]⟩, .string ⟨#[110, 117, 109]⟩, .string ⟨#[97, 116]⟩, .string ⟨#[110, 111, 116]⟩, .string ⟨#[110, 101, 103]⟩, .string ⟨#[108, 101, 110]⟩, .string ⟨#[114, 101]⟩, .string ⟨#[105, 109]⟩, .string ⟨#[99, 111, 110, 106]⟩]) (.int .u8 10)).run Try.prog w = .ok (.string ⟨#[97, 116]⟩) w := fun _ => by kernel_rfl
  go_enter Try.func29, Try.ntmps29
  go_wp2
  exact bodyPost_ret (v := kindV 42) (by simp [results, Try.results29, go_sem]; rfl) rfl ⟨rfl, by go_grown⟩
theorem kind_42 (w : World) : Calls Try.prog 15 #[.int .u8 42] w (RetB (kindV 42) w) := by
  go_enter Try.func15, Try.ntmps15
  go_wp2_with fail
  refine (plain_42 _).mono ?_
  rintro e w1 ⟨rfl, h1⟩
  have c1 := (bcell h1).1
  have c2 := (bcell h1).2
  have k : ∀ i, (w1.cell? ⟨w.heap.size, i, none⟩) = _ := fun i => (c1 w.heap.size i (by simp)).trans (World.cell?_alloc_new ..)
  simp only [kindV]
  go_wp2_with fail
  refine bodyPost_ret (v := kindV 42) (by simp [results, Try.results15, go_sem, World.cell?_setCell_same', World.cell?_setCell_other, k]; rfl) rfl ⟨rfl, ?_⟩
  go_grown
  exact ((Below.refl _ w).alloc (Nat.le_refl _) _).trans (h1.mono (by simp))
set_option maxRecDepth 100000 in
theorem plain_43 (w : World) : Calls Try.prog 29 #[.int .u8 43] w (RetB (kindV 43) w) := by
  have i0 : ∀ w, (Instr.index 88 (.agg #[.string ⟨#[101, 113]⟩, .string ⟨#[110, 101]⟩, .string ⟨#[108, 116]⟩, .string ⟨#[108, 101]⟩, .string ⟨#[97, 100, 100]⟩, .string ⟨#[115, 117, 98]⟩, .string ⟨#[109, 117, 108]⟩, .string ⟨#[100, 105, 118]⟩, .string ⟨#[109, 111, 100]⟩, .string ⟨#[110, 117, 109]⟩, .string ⟨#[97, 116]⟩, .string ⟨#[110, 111, 116]⟩, .string ⟨#[110, 101, 103]⟩, .string ⟨#[108, 101, 110]⟩, .string ⟨#[114, 101]⟩, .string ⟨#[105, 109]⟩, .string ⟨#[99, 111, 110, 106]⟩]) (.int .u8 11)).run Try.prog w = .ok (.string ⟨#[110, 111, 116]⟩) w := fun _ => by kernel_rfl
  go_enter Try.func29, Try.ntmps29
  go_wp2
  exact bodyPost_ret (v := kindV 43) (by simp [results, Try.results29, go_sem]; rfl) rfl ⟨rfl, by go_grown⟩
theorem kind_43 (w : World) : Calls Try.prog 15 #[.int .u8 43] w (RetB (kindV 43) w) := by
  go_enter Try.func15, Try.ntmps15
  go_wp2_with fail
  refine (plain_43 _).mono ?_
  rintro e w1 ⟨rfl, h1⟩
  have c1 := (bcell h1).1
  have c2 := (bcell h1).2
  have k : ∀ i, (w1.cell? ⟨w.heap.size, i, none⟩) = _ := fun i => (c1 w.heap.size i (by simp)).trans (World.cell?_alloc_new ..)
  simp only [kindV]
  go_wp2_with fail
  refine bodyPost_ret (v := kindV 43) (by simp [results, Try.results15, go_sem, World.cell?_setCell_same', World.cell?_setCell_other, k]; rfl) rfl ⟨rfl, ?_⟩
  go_grown
  exact ((Below.refl _ w).alloc (Nat.le_refl _) _).trans (h1.mono (by simp))
set_option maxRecDepth 100000 in
theorem plain_44 (w : World) : Calls Try.prog 29 #[.int .u8 44] w (RetB (kindV 44) w) := by
  have i0 : ∀ w, (Instr.index 88 (.agg #[.string ⟨#[101, 113]⟩, .string ⟨#[110, 101]⟩, .string ⟨#[108, 116]⟩, .string ⟨#[108, 101]⟩, .string ⟨#[97, 100, 100]⟩, .string ⟨#[115, 117, 98]⟩, .string ⟨#[109, 117, 108]⟩, .string ⟨#[100, 105, 118]⟩, .string ⟨#[109, 111, 100]⟩, .string ⟨#[110, 117, 109]⟩, .string ⟨#[97, 116]⟩, .string ⟨#[110, 111, 116]⟩, .string ⟨#[110, 101, 103]⟩, .string ⟨#[108, 101, 110]⟩, .string ⟨#[114, 101]⟩, .string ⟨#[105, 109]⟩, .string ⟨#[99, 111, 110, 106]⟩]) (.int .u8 12)).run Try.prog w = .ok (.string ⟨#[110, 101, 103]⟩) w := fun _ => by kernel_rfl
  go_enter Try.func29, Try.ntmps29
  go_wp2
  exact bodyPost_ret (v := kindV 44) (by simp [results, Try.results29, go_sem]; rfl) rfl ⟨rfl, by go_grown⟩
theorem kind_44 (w : World) : Calls Try.prog 15 #[.int .u8 44] w (RetB (kindV 44) w) := by
  go_enter Try.func15, Try.ntmps15
  go_wp2_with fail
  refine (plain_44 _).mono ?_
  rintro e w1 ⟨rfl, h1⟩
  have c1 := (bcell h1).1
  have c2 := (bcell h1).2
  have k : ∀ i, (w1.cell? ⟨w.heap.size, i, none⟩) = _ := fun i => (c1 w.heap.size i (by simp)).trans (World.cell?_alloc_new ..)
  simp only [kindV]
  go_wp2_with fail
  refine bodyPost_ret (v := kindV 44) (by simp [results, Try.results15, go_sem, World.cell?_setCell_same', World.cell?_setCell_other, k]; rfl) rfl ⟨rfl, ?_⟩
  go_grown
  exact ((Below.refl _ w).alloc (Nat.le_refl _) _).trans (h1.mono (by simp))
set_option maxRecDepth 100000 in
theorem plain_45 (w : World) : Calls Try.prog 29 #[.int .u8 45] w (RetB (kindV 45) w) := by
  have i0 : ∀ w, (Instr.index 88 (.agg #[.string ⟨#[101, 113]⟩, .string ⟨#[110, 101]⟩, .string ⟨#[108, 116]⟩, .string ⟨#[108, 101]⟩, .string ⟨#[97, 100, 100]⟩, .string ⟨#[115, 117, 98]⟩, .string ⟨#[109, 117, 108]⟩, .string ⟨#[100, 105, 118]⟩, .string ⟨#[109, 111, 100]⟩, .string ⟨#[110, 117, 109]⟩, .string ⟨#[97, 116]⟩, .string ⟨#[110, 111, 116]⟩, .string ⟨#[110, 101, 103]⟩, .string ⟨#[108, 101, 110]⟩, .string ⟨#[114, 101]⟩, .string ⟨#[105, 109]⟩, .string ⟨#[99, 111, 110, 106]⟩]) (.int .u8 13)).run Try.prog w = .ok (.string ⟨#[108, 101, 110]⟩) w := fun _ => by kernel_rfl
  go_enter Try.func29, Try.ntmps29
  go_wp2
  exact bodyPost_ret (v := kindV 45) (by simp [results, Try.results29, go_sem]; rfl) rfl ⟨rfl, by go_grown⟩
theorem kind_45 (w : World) : Calls Try.prog 15 #[.int .u8 45] w (RetB (kindV 45) w) := by
  go_enter Try.func15, Try.ntmps15
  go_wp2_with fail
  refine (plain_45 _).mono ?_
  rintro e w1 ⟨rfl, h1⟩
  have c1 := (bcell h1).1
  have c2 := (bcell h1).2
  have k : ∀ i, (w1.cell? ⟨w.heap.size, i, none⟩) = _ := fun i => (c1 w.heap.size i (by simp)).trans (World.cell?_alloc_new ..)
  simp only [kindV]
  go_wp2_with fail
  refine bodyPost_ret (v := kindV 45) (by simp [results, Try.results15, go_sem, World.cell?_setCell_same', World.cell?_setCell_other, k]; rfl) rfl ⟨rfl, ?_⟩
  go_grown
  exact ((Below.refl _ w).alloc (Nat.le_refl _) _).trans (h1.mono (by simp))
set_option maxRecDepth 100000 in
theorem plain_46 (w : World) : Calls Try.prog 29 #[.int .u8 46] w (RetB (kindV 46) w) := by
  have i0 : ∀ w, (Instr.index 88 (.agg #[.string ⟨#[101, 113]⟩, .string ⟨#[110, 101]⟩, .string ⟨#[108, 116]⟩, .string ⟨#[108, 101]⟩, .string ⟨#[97, 100, 100]⟩, .string ⟨#[115, 117, 98]⟩, .string ⟨#[109, 117, 108]⟩, .string ⟨#[100, 105, 118]⟩, .string ⟨#[109, 111, 100]⟩, .string ⟨#[110, 117, 109]⟩, .string ⟨#[97, 116]⟩, .string ⟨#[110, 111, 116]⟩, .string ⟨#[110, 101, 103]⟩, .string ⟨#[108, 101, 110]⟩, .string ⟨#[114, 101]⟩, .string ⟨#[105, 109]⟩, .string ⟨#[99, 111, 110, 106]⟩]) (.int .u8 14)).run Try.prog w = .ok (.string ⟨#[114, 101]⟩) w := fun _ => by kernel_rfl
  go_enter Try.func29, Try.ntmps29
  go_wp2
  exact bodyPost_ret (v := kindV 46) (by simp [results, Try.results29, go_sem]; rfl) rfl ⟨rfl, by go_grown⟩
theorem kind_46 (w : World) : Calls Try.prog 15 #[.int .u8 46] w (RetB (kindV 46) w) := by
  go_enter Try.func15, Try.ntmps15
  go_wp2_with fail
  refine (plain_46 _).mono ?_
  rintro e w1 ⟨rfl, h1⟩
  have c1 := (bcell h1).1
  have c2 := (bcell h1).2
  have k : ∀ i, (w1.cell? ⟨w.heap.size, i, none⟩) = _ := fun i => (c1 w.heap.size i (by simp)).trans (World.cell?_alloc_new ..)
  simp only [kindV]
  go_wp2_with fail
  refine bodyPost_ret (v := kindV 46) (by simp [results, Try.results15, go_sem, World.cell?_setCell_same', World.cell?_setCell_other, k]; rfl) rfl ⟨rfl, ?_⟩
  go_grown
  exact ((Below.refl _ w).alloc (Nat.le_refl _) _).trans (h1.mono (by simp))
set_option maxRecDepth 100000 in
theorem plain_47 (w : World) : Calls Try.prog 29 #[.int .u8 47] w (RetB (kindV 47) w) := by
  have i0 : ∀ w, (Instr.index 88 (.agg #[.string ⟨#[101, 113]⟩, .string ⟨#[110, 101]⟩, .string ⟨#[108, 116]⟩, .string ⟨#[108, 101]⟩, .string ⟨#[97, 100, 100]⟩, .string ⟨#[115, 117, 98]⟩, .string ⟨#[109, 117, 108]⟩, .string ⟨#[100, 105, 118]⟩, .string ⟨#[109, 111, 100]⟩, .string ⟨#[110, 117, 109]⟩, .string ⟨#[97, 116]⟩, .string ⟨#[110, 111, 116]⟩, .string ⟨#[110, 101, 103]⟩, .string ⟨#[108, 101, 110]⟩, .string ⟨#[114, 101]⟩, .string ⟨#[105, 109]⟩, .string ⟨#[99, 111, 110, 106]⟩]) (.int .u8 15)).run Try.prog w = .ok (.string ⟨#[105, 109]⟩) w := fun _ => by kernel_rfl
  go_enter Try.func29, Try.ntmps29
  go_wp2
  exact bodyPost_ret (v := kindV 47) (by simp [results, Try.results29, go_sem]; rfl) rfl ⟨rfl, by go_grown⟩
theorem kind_47 (w : World) : Calls Try.prog 15 #[.int .u8 47] w (RetB (kindV 47) w) := by
  go_enter Try.func15, Try.ntmps15
  go_wp2_with fail
  refine (plain_47 _).mono ?_
  rintro e w1 ⟨rfl, h1⟩
  have c1 := (bcell h1).1
  have c2 := (bcell h1).2
  have k : ∀ i, (w1.cell? ⟨w.heap.size, i, none⟩) = _ := fun i => (c1 w.heap.size i (by simp)).trans (World.cell?_alloc_new ..)
  simp only [kindV]
  go_wp2_with fail
  refine bodyPost_ret (v := kindV 47) (by simp [results, Try.results15, go_sem, World.cell?_setCell_same', World.cell?_setCell_other, k]; rfl) rfl ⟨rfl, ?_⟩
  go_grown
  exact ((Below.refl _ w).alloc (Nat.le_refl _) _).trans (h1.mono (by simp))
end Go.Proofs.Ytjfdokoigkdciaa
