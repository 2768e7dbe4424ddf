/- The table of instructions, walked: part 3. Printed by a program. -/
import Derived.Test.YtjfdokoigkdciaaInstrT
namespace Go.Proofs.Ytjfdokoigkdciaa
open Go.RowKit

set_option maxRecDepth 100000 in
theorem plain_48 (w : World) : Calls Try.prog 29 #[.int .u8 48] w (RetB (kindV 48) w) := by
  have i0 : ∀ w, (Instr.index 88 (.agg #[.string ⟨#[101, 113]⟩, .string ⟨#[110, 101]⟩, .string ⟨#[108, 116]⟩, .string ⟨#[108, 101]⟩, .string ⟨#[97, 100, 100]⟩, .string ⟨#[115, 117, 98]⟩, .string ⟨#[109, 117, 108]⟩, .string ⟨#[100, 105, 118]⟩, .string ⟨#[109, 111, 100]⟩, .string ⟨#[110, 117, 109]⟩, .string ⟨#[97, 116]⟩, .string ⟨#[110, 111, 116]⟩, .string ⟨#[110, 101, 103]⟩, .string ⟨#[108, 101, 110]⟩, .string ⟨#[114, 101]⟩, .string ⟨#[105, 109]⟩, .string ⟨#[99, 111, 110, 106]⟩]) (.int .u8 16)).run Try.prog w = .ok (.string ⟨#[99, 111, 110, 106]⟩) w := fun _ => by kernel_rfl
  go_enter Try.func29, Try.ntmps29
  go_wp2
  exact bodyPost_ret (v := kindV 48) (by simp [results, Try.results29, go_sem]; rfl) rfl ⟨rfl, by go_grown⟩
theorem kind_48 (w : World) : Calls Try.prog 15 #[.int .u8 48] w (RetB (kindV 48) w) := by
  go_enter Try.func15, Try.ntmps15
  go_wp2_with fail
  refine (plain_48 _).mono ?_
  rintro e w1 ⟨rfl, h1⟩
  have c1 := (bcell h1).1
  have c2 := (bcell h1).2
  have k : ∀ i, (w1.cell? ⟨w.heap.size, i, none⟩) = _ := fun i => (c1 w.heap.size i (by simp)).trans (World.cell?_alloc_new ..)
  simp only [kindV]
  go_wp2_with fail
  refine bodyPost_ret (v := kindV 48) (by simp [results, Try.results15, go_sem, World.cell?_setCell_same', World.cell?_setCell_other, k]; rfl) rfl ⟨rfl, ?_⟩
  go_grown
  exact ((Below.refl _ w).alloc (Nat.le_refl _) _).trans (h1.mono (by simp))
theorem kind_49 (w : World) : Calls Try.prog 15 #[.int .u8 49] w (RetB (kindV 49) w) := by
  go_enter Try.func15, Try.ntmps15
  go_wp2
  exact bodyPost_ret (v := kindV 49) (by simp [results, Try.results15, go_sem]; rfl) rfl ⟨rfl, by go_grown⟩
theorem kind_50 (w : World) : Calls Try.prog 15 #[.int .u8 50] w (RetB (kindV 50) w) := by
  go_enter Try.func15, Try.ntmps15
  go_wp2
  exact bodyPost_ret (v := kindV 50) (by simp [results, Try.results15, go_sem]; rfl) rfl ⟨rfl, by go_grown⟩
theorem kind_51 (w : World) : Calls Try.prog 15 #[.int .u8 51] w (RetB (kindV 51) w) := by
  go_enter Try.func15, Try.ntmps15
  go_wp2
  exact bodyPost_ret (v := kindV 51) (by simp [results, Try.results15, go_sem]; rfl) rfl ⟨rfl, by go_grown⟩
theorem kind_52 (w : World) : Calls Try.prog 15 #[.int .u8 52] w (RetB (kindV 52) w) := by
  go_enter Try.func15, Try.ntmps15
  go_wp2
  exact bodyPost_ret (v := kindV 52) (by simp [results, Try.results15, go_sem]; rfl) rfl ⟨rfl, by go_grown⟩
theorem kind_53 (w : World) : Calls Try.prog 15 #[.int .u8 53] w (RetB (kindV 53) w) := by
  go_enter Try.func15, Try.ntmps15
  go_wp2
  exact bodyPost_ret (v := kindV 53) (by simp [results, Try.results15, go_sem]; rfl) rfl ⟨rfl, by go_grown⟩
theorem kind_54 (w : World) : Calls Try.prog 15 #[.int .u8 54] w (RetB (kindV 54) w) := by
  go_enter Try.func15, Try.ntmps15
  go_wp2
  exact bodyPost_ret (v := kindV 54) (by simp [results, Try.results15, go_sem]; rfl) rfl ⟨rfl, by go_grown⟩
theorem kind_55 (w : World) : Calls Try.prog 15 #[.int .u8 55] w (RetB (kindV 55) w) := by
  go_enter Try.func15, Try.ntmps15
  go_wp2
  exact bodyPost_ret (v := kindV 55) (by simp [results, Try.results15, go_sem]; rfl) rfl ⟨rfl, by go_grown⟩
theorem kind_56 (w : World) : Calls Try.prog 15 #[.int .u8 56] w (RetB (kindV 56) w) := by
  go_enter Try.func15, Try.ntmps15
  go_wp2
  exact bodyPost_ret (v := kindV 56) (by simp [results, Try.results15, go_sem]; rfl) rfl ⟨rfl, by go_grown⟩
theorem kind_57 (w : World) : Calls Try.prog 15 #[.int .u8 57] w (RetB (kindV 57) w) := by
  go_enter Try.func15, Try.ntmps15
  go_wp2
  exact bodyPost_ret (v := kindV 57) (by simp [results, Try.results15, go_sem]; rfl) rfl ⟨rfl, by go_grown⟩
theorem kind_58 (w : World) : Calls Try.prog 15 #[.int .u8 58] w (RetB (kindV 58) w) := by
  go_enter Try.func15, Try.ntmps15
  go_wp2
  exact bodyPost_ret (v := kindV 58) (by simp [results, Try.results15, go_sem]; rfl) rfl ⟨rfl, by go_grown⟩
theorem kind_59 (w : World) : Calls Try.prog 15 #[.int .u8 59] w (RetB (kindV 59) w) := by
  go_enter Try.func15, Try.ntmps15
  go_wp2
  exact bodyPost_ret (v := kindV 59) (by simp [results, Try.results15, go_sem]; rfl) rfl ⟨rfl, by go_grown⟩
theorem kind_60 (w : World) : Calls Try.prog 15 #[.int .u8 60] w (RetB (kindV 60) w) := by
  go_enter Try.func15, Try.ntmps15
  go_wp2
  exact bodyPost_ret (v := kindV 60) (by simp [results, Try.results15, go_sem]; rfl) rfl ⟨rfl, by go_grown⟩
theorem kind_61 (w : World) : Calls Try.prog 15 #[.int .u8 61] w (RetB (kindV 61) w) := by
  go_enter Try.func15, Try.ntmps15
  go_wp2
  exact bodyPost_ret (v := kindV 61) (by simp [results, Try.results15, go_sem]; rfl) rfl ⟨rfl, by go_grown⟩
theorem kind_62 (w : World) : Calls Try.prog 15 #[.int .u8 62] w (RetB (kindV 62) w) := by
  go_enter Try.func15, Try.ntmps15
  go_wp2
  exact bodyPost_ret (v := kindV 62) (by simp [results, Try.results15, go_sem]; rfl) rfl ⟨rfl, by go_grown⟩
theorem kind_63 (w : World) : Calls Try.prog 15 #[.int .u8 63] w (RetB (kindV 63) w) := by
  go_enter Try.func15, Try.ntmps15
  go_wp2
  exact bodyPost_ret (v := kindV 63) (by simp [results, Try.results15, go_sem]; rfl) rfl ⟨rfl, by go_grown⟩
set_option maxRecDepth 100000 in
theorem sub_kind_big (op : Int) (h0 : 64 ≤ op) (h1 : op ≤ 255) (w : World) : Calls Try.prog 29 #[.int .u8 op] w (RetB (kindV 0) w) := by
  have f1 : (op == 1) = false := by simpa using (by omega : ¬ op = 1)
  have f2 : (op == 2) = false := by simpa using (by omega : ¬ op = 2)
  have f3 : (op == 3) = false := by simpa using (by omega : ¬ op = 3)
  have f4 : (op == 4) = false := by simpa using (by omega : ¬ op = 4)
  have f5 : (op == 5) = false := by simpa using (by omega : ¬ op = 5)
  have f6 : (op == 6) = false := by simpa using (by omega : ¬ op = 6)
  have f8 : (op == 8) = false := by simpa using (by omega : ¬ op = 8)
  have f9 : (op == 9) = false := by simpa using (by omega : ¬ op = 9)
  have f10 : (op == 10) = false := by simpa using (by omega : ¬ op = 10)
  have f20 : (op == 20) = false := by simpa using (by omega : ¬ op = 20)
  have f21 : (op == 21) = false := by simpa using (by omega : ¬ op = 21)
  have f22 : (op == 22) = false := by simpa using (by omega : ¬ op = 22)
  have f23 : (op == 23) = false := by simpa using (by omega : ¬ op = 23)
  have f24 : (op == 24) = false := by simpa using (by omega : ¬ op = 24)
  have f25 : (op == 25) = false := by simpa using (by omega : ¬ op = 25)
  have f26 : (op == 26) = false := by simpa using (by omega : ¬ op = 26)
  have f27 : (op == 27) = false := by simpa using (by omega : ¬ op = 27)
  have f28 : (op == 28) = false := by simpa using (by omega : ¬ op = 28)
  have f50 : (op == 50) = false := by simpa using (by omega : ¬ op = 50)
  have f51 : (op == 51) = false := by simpa using (by omega : ¬ op = 51)
  have f52 : (op == 52) = false := by simpa using (by omega : ¬ op = 52)
  have f53 : (op == 53) = false := by simpa using (by omega : ¬ op = 53)
  have f54 : (op == 54) = false := by simpa using (by omega : ¬ op = 54)
  have f55 : (op == 55) = false := by simpa using (by omega : ¬ op = 55)
  have f56 : (op == 56) = false := by simpa using (by omega : ¬ op = 56)
  have f57 : (op == 57) = false := by simpa using (by omega : ¬ op = 57)
  have f32 : (op == 32) = false := by simpa using (by omega : ¬ op = 32)
  have f33 : (op == 33) = false := by simpa using (by omega : ¬ op = 33)
  have f34 : (op == 34) = false := by simpa using (by omega : ¬ op = 34)
  have f35 : (op == 35) = false := by simpa using (by omega : ¬ op = 35)
  have f36 : (op == 36) = false := by simpa using (by omega : ¬ op = 36)
  have f37 : (op == 37) = false := by simpa using (by omega : ¬ op = 37)
  have f38 : (op == 38) = false := by simpa using (by omega : ¬ op = 38)
  have f39 : (op == 39) = false := by simpa using (by omega : ¬ op = 39)
  have f40 : (op == 40) = false := by simpa using (by omega : ¬ op = 40)
  have f41 : (op == 41) = false := by simpa using (by omega : ¬ op = 41)
  have f42 : (op == 42) = false := by simpa using (by omega : ¬ op = 42)
  have f43 : (op == 43) = false := by simpa using (by omega : ¬ op = 43)
  have f44 : (op == 44) = false := by simpa using (by omega : ¬ op = 44)
  have f45 : (op == 45) = false := by simpa using (by omega : ¬ op = 45)
  have f46 : (op == 46) = false := by simpa using (by omega : ¬ op = 46)
  have f47 : (op == 47) = false := by simpa using (by omega : ¬ op = 47)
  have f48 : (op == 48) = false := by simpa using (by omega : ¬ op = 48)
  have f0 : (op == 0) = false := by simpa using (by omega : ¬ op = 0)
  have g1 : decide ((32 : Int) ≤ op) = true := decide_eq_true (by omega)
  have g2 : decide (op ≤ 48) = false := decide_eq_false (by omega)
  have g3 : decide (op ≤ 42) = false := decide_eq_false (by omega)
  have g4 : decide ((43 : Int) ≤ op) = true := decide_eq_true (by omega)
  go_enter Try.func29, Try.ntmps29
  go_wp2
  exact bodyPost_ret (v := kindV 0) (by simp [results, Try.results29, go_sem]; rfl) rfl ⟨rfl, by go_grown⟩
set_option maxRecDepth 100000 in
theorem kind_big (op : Int) (h0 : 64 ≤ op) (h1 : op ≤ 255) (w : World) : Calls Try.prog 15 #[.int .u8 op] w (RetB (kindV 0) w) := by
  have f1 : (op == 1) = false := by simpa using (by omega : ¬ op = 1)
  have f2 : (op == 2) = false := by simpa using (by omega : ¬ op = 2)
  have f3 : (op == 3) = false := by simpa using (by omega : ¬ op = 3)
  have f4 : (op == 4) = false := by simpa using (by omega : ¬ op = 4)
  have f5 : (op == 5) = false := by simpa using (by omega : ¬ op = 5)
  have f6 : (op == 6) = false := by simpa using (by omega : ¬ op = 6)
  have f8 : (op == 8) = false := by simpa using (by omega : ¬ op = 8)
  have f9 : (op == 9) = false := by simpa using (by omega : ¬ op = 9)
  have f10 : (op == 10) = false := by simpa using (by omega : ¬ op = 10)
  have f20 : (op == 20) = false := by simpa using (by omega : ¬ op = 20)
  have f21 : (op == 21) = false := by simpa using (by omega : ¬ op = 21)
  have f22 : (op == 22) = false := by simpa using (by omega : ¬ op = 22)
  have f23 : (op == 23) = false := by simpa using (by omega : ¬ op = 23)
  have f24 : (op == 24) = false := by simpa using (by omega : ¬ op = 24)
  have f25 : (op == 25) = false := by simpa using (by omega : ¬ op = 25)
  have f26 : (op == 26) = false := by simpa using (by omega : ¬ op = 26)
  have f27 : (op == 27) = false := by simpa using (by omega : ¬ op = 27)
  have f28 : (op == 28) = false := by simpa using (by omega : ¬ op = 28)
  have f50 : (op == 50) = false := by simpa using (by omega : ¬ op = 50)
  have f51 : (op == 51) = false := by simpa using (by omega : ¬ op = 51)
  have f52 : (op == 52) = false := by simpa using (by omega : ¬ op = 52)
  have f53 : (op == 53) = false := by simpa using (by omega : ¬ op = 53)
  have f54 : (op == 54) = false := by simpa using (by omega : ¬ op = 54)
  have f55 : (op == 55) = false := by simpa using (by omega : ¬ op = 55)
  have f56 : (op == 56) = false := by simpa using (by omega : ¬ op = 56)
  have f57 : (op == 57) = false := by simpa using (by omega : ¬ op = 57)
  have f32 : (op == 32) = false := by simpa using (by omega : ¬ op = 32)
  have f33 : (op == 33) = false := by simpa using (by omega : ¬ op = 33)
  have f34 : (op == 34) = false := by simpa using (by omega : ¬ op = 34)
  have f35 : (op == 35) = false := by simpa using (by omega : ¬ op = 35)
  have f36 : (op == 36) = false := by simpa using (by omega : ¬ op = 36)
  have f37 : (op == 37) = false := by simpa using (by omega : ¬ op = 37)
  have f38 : (op == 38) = false := by simpa using (by omega : ¬ op = 38)
  have f39 : (op == 39) = false := by simpa using (by omega : ¬ op = 39)
  have f40 : (op == 40) = false := by simpa using (by omega : ¬ op = 40)
  have f41 : (op == 41) = false := by simpa using (by omega : ¬ op = 41)
  have f42 : (op == 42) = false := by simpa using (by omega : ¬ op = 42)
  have f43 : (op == 43) = false := by simpa using (by omega : ¬ op = 43)
  have f44 : (op == 44) = false := by simpa using (by omega : ¬ op = 44)
  have f45 : (op == 45) = false := by simpa using (by omega : ¬ op = 45)
  have f46 : (op == 46) = false := by simpa using (by omega : ¬ op = 46)
  have f47 : (op == 47) = false := by simpa using (by omega : ¬ op = 47)
  have f48 : (op == 48) = false := by simpa using (by omega : ¬ op = 48)
  have f0 : (op == 0) = false := by simpa using (by omega : ¬ op = 0)
  have g1 : decide ((32 : Int) ≤ op) = true := decide_eq_true (by omega)
  have g2 : decide (op ≤ 48) = false := decide_eq_false (by omega)
  have g3 : decide (op ≤ 42) = false := decide_eq_false (by omega)
  have g4 : decide ((43 : Int) ≤ op) = true := decide_eq_true (by omega)
  go_enter Try.func15, Try.ntmps15
  go_wp2_with fail
  refine (sub_kind_big op h0 h1 _).mono ?_
  rintro e w1 ⟨rfl, h1⟩
  have c1 := (bcell h1).1
  have c2 := (bcell h1).2
  have k : ∀ i, (w1.cell? ⟨w.heap.size, i, none⟩) = _ := fun i => (c1 w.heap.size i (by simp)).trans (World.cell?_alloc_new ..)
  simp only [kindV]
  go_wp2_with fail
  refine bodyPost_ret (v := kindV 0) (by simp [results, Try.results15, go_sem, World.cell?_setCell_same', World.cell?_setCell_other, k]; rfl) rfl ⟨rfl, ?_⟩
  go_grown
  exact ((Below.refl _ w).alloc (Nat.le_refl _) _).trans (h1.mono (by simp))
end Go.Proofs.Ytjfdokoigkdciaa
