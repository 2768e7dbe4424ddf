/- CompileSteps: the loop's code, the counting, walked. -/
import Derived.Test.YtjfdokoigkdciaaCplC
import Derived.Laws.StructEq
import Derived.Deep.QuietTactic
namespace Go.Proofs.Ytjfdokoigkdciaa
open Go.RowKit

theorem counted_any (op : Nat) (w : World) : Calls Try.prog 7 #[.int .u8 (op : Int)] w (Ret (.bool (!(op == 1) && !(op == 2) && !(op == 3))) w) := by
  rcases (show op = 1 ∨ op = 2 ∨ op = 3 ∨ (op ≠ 1 ∧ op ≠ 2 ∧ op ≠ 3) by omega) with rfl | rfl | rfl | ⟨h1, h2, h3⟩
  · go_enter Try.func7, Try.ntmps7
    go_wp2_with fail
    go_ret
    exact ⟨rfl, rfl⟩
  · go_enter Try.func7, Try.ntmps7
    go_wp2_with fail
    go_ret
    exact ⟨rfl, rfl⟩
  · go_enter Try.func7, Try.ntmps7
    go_wp2_with fail
    go_ret
    exact ⟨rfl, rfl⟩
  · have e : (!(op == 1) && !(op == 2) && !(op == 3)) = true := by simp; omega
    rw [e]
    have n1 : ((op : Int) != 1) = true := by simp; omega
    have n2 : ((op : Int) != 2) = true := by simp; omega
    have n3 : ((op : Int) != 3) = true := by simp; omega
    clear h1 h2 h3 e
    go_enter Try.func7, Try.ntmps7
    go_wp2_with fail
    go_ret
    exact ⟨rfl, rfl⟩
theorem insC_same (w : World) (op a int : Int) (text : ByteArray) :
    (binOp .neq 33 (.agg #[.int .u8 op, .int .i64 a, .int .i64 int, .string text]) (.agg #[.int .u8 op, .int .i64 a, .int .i64 int, .string text])).run Try.prog w = .ok (.bool false) w := by
  simp [go_sem]
set_option maxRecDepth 100000 in
set_option maxHeartbeats 1000000 in
theorem alike_same {w : World} {A B : Option Addr} {n cc dc : Nat} {c : List InsV} (ha : CodeIn w A c) (hb : CodeIn w B c) (hl : c.length = n) (hn : n ≤ 9223372036854775807) :
    Calls Try.prog 11 #[.slice A n cc, .slice B n dc] w (RetB (.bool true) w) := by
  have heq : ((n : Int) != (n : Int)) = false := by simp
  have HA := Lib.hid ha
  have HB := Lib.hid hb
  have HL := Lib.hid hl
  have HS := Lib.hid insC_same
  clear ha hb hl
  go_enter Try.func11, Try.ntmps11
  go_wp2_with fail
  go_loopw [5] (fun i wr => ∃ (k q : Nat), i = .int .i64 k ∧ k ≤ n ∧ wr = w.drewN q) (fun i _ => n - (intOf i).toNat)
  case atStart => exact ⟨0, 0, rfl, Nat.zero_le _, rfl⟩
  case round =>
    obtain ⟨k, q, rfl, hk, rfl⟩ := hrel
    by_cases hlt : k < n
    · obtain ⟨b1, o1, rfl, hb1, hc1⟩ := HA.out (by rw [HL.out]; omega)
      obtain ⟨b2, o2, rfl, hb2, hc2⟩ := HB.out (by rw [HL.out]; omega)
      obtain ⟨c0, c1, c2, c3⟩ := hc1 k (by rw [HL.out]; exact hlt)
      obtain ⟨d0, d1, d2, d3⟩ := hc2 k (by rw [HL.out]; exact hlt)
      have hS := HS.out
      clear hc1 hc2
      generalize atV c k = x at *
      have p0 : (0 : Int) ≤ (k : Int) := by omega
      have p1 : (k : Int) < (n : Int) := by omega
      go_wp2_with fail
      go_quiet (fail)
      go_wp2_with fail
      go_roundw
      case rel => exact ⟨k + 1, _, by go_num, by omega, rfl⟩
      case measure => simp [intOf]; omega
    · go_wp2_with fail
      go_ret
      exact ⟨rfl, below_drewN (Below.refl _ _) q⟩
/-- flow f() { while true { } } -/
def loopT : List InsV := [⟨1, 1, 0, ⟨#[102]⟩⟩, ⟨3, 1, 0, ⟨#[]⟩⟩, ⟨7, 2, 0, ⟨#[]⟩⟩, ⟨21, 0, 0, ⟨#[]⟩⟩, ⟨3, 0, 0, ⟨#[]⟩⟩]
def loopC : List InsV := [⟨21, 0, 0, ⟨#[]⟩⟩, ⟨2, 3, 0, ⟨#[]⟩⟩, ⟨1, 0, 0, ⟨#[]⟩⟩, ⟨28, 0, 0, ⟨#[]⟩⟩]
theorem loop_fault : (slotS loopT).2.2 = 0 := by kernel_rfl
theorem loop_code : codeS loopT = loopC := by
  unfold codeS
  rfl
theorem loop_any (w : World) : Calls Try.prog 10 #[] w fun e w' => ∃ A, e = .returned (.slice A 5 5) ∧ CodeIn w' A loopT ∧ Below w.heap.size w w' := by
  go_enter Try.func10, Try.ntmps10
  go_wp2_with fail
  go_ret
  refine ⟨_, rfl, fun _ => ⟨w.heap.size, 0, rfl, by simp, fun k hk => ?_⟩, by go_grown⟩
  have h := (heap_alloc_new w (.cells #[.int .u8 1, .int .i64 1, .int .i64 0, .string ⟨#[102]⟩, .int .u8 3, .int .i64 1, .int .i64 0, .string ⟨#[]⟩, .int .u8 7, .int .i64 2, .int .i64 0, .string ⟨#[]⟩, .int .u8 21, .int .i64 0, .int .i64 0, .string ⟨#[]⟩, .int .u8 3, .int .i64 0, .int .i64 0, .string ⟨#[]⟩] 31))
  have c := fun o => Lib.cell_of_heap h o
  match k, hk with
  | 0, _ => exact ⟨c 0, c 1, c 2, c 3⟩
  | 1, _ => exact ⟨c 4, c 5, c 6, c 7⟩
  | 2, _ => exact ⟨c 8, c 9, c 10, c 11⟩
  | 3, _ => exact ⟨c 12, c 13, c 14, c 15⟩
  | 4, _ => exact ⟨c 16, c 17, c 18, c 19⟩
  | k + 5, hk => exact absurd hk (by simp [loopT])
/-- The loop's code is that. -/
theorem wakes_any (w : World) : Calls Try.prog 5 #[] w (RetB (.bool true) w) := by
  have HP := Lib.hid (fun W => loop_any W)
  have HK : OkC loopT := fun k hk => by
    match k, hk with
    | 0, _ => exact ⟨by decide, by decide⟩
    | 1, _ => exact ⟨by decide, by decide⟩
    | 2, _ => exact ⟨by decide, by decide⟩
    | 3, _ => exact ⟨by decide, by decide⟩
    | 4, _ => exact ⟨by decide, by decide⟩
    | k + 5, hk => exact absurd hk (by simp [loopT])
  have HOK := Lib.hid HK
  clear HK
  go_enter Try.func5, Try.ntmps5
  go_wp2_with fail
  refine (HP.out _).mono ?_
  rintro e w1 ⟨A, rfl, h1, h2⟩
  have HB1 := Lib.hid h2
  have HC := Lib.hid (compile_any (c := 5) h1 HOK.out (by decide))
  clear h1 h2
  go_wp2_with fail
  refine (show Calls Try.prog 6 #[.slice A 5 5] w1 (CmpP loopT w1) from HC.out).mono ?_
  rintro e w2 ⟨h3, h4 | h4⟩
  · obtain ⟨_, A', cap, rfl, h5⟩ := h4
    rw [loop_code] at h5 ⊢
    have HB2 := Lib.hid (bthen HB1.out h3)
    have H5 := Lib.hid h5
    clear h3 h5
    rw [show loopC.length = 4 from rfl, show (atV loopT 0).a - 1 = 0 from rfl]
    go_wp2_with fail
    have hb := (Below.refl _ w2).alloc (Nat.le_refl _) (.cells #[.int .u8 21, .int .i64 0, .int .i64 0, .string ⟨#[]⟩, .int .u8 2, .int .i64 3, .int .i64 0, .string ⟨#[]⟩, .int .u8 1, .int .i64 0, .int .i64 0, .string ⟨#[]⟩, .int .u8 28, .int .i64 0, .int .i64 0, .string ⟨#[]⟩] 33)
    have h := (heap_alloc_new w2 (.cells #[.int .u8 21, .int .i64 0, .int .i64 0, .string ⟨#[]⟩, .int .u8 2, .int .i64 3, .int .i64 0, .string ⟨#[]⟩, .int .u8 1, .int .i64 0, .int .i64 0, .string ⟨#[]⟩, .int .u8 28, .int .i64 0, .int .i64 0, .string ⟨#[]⟩] 33))
    have c := fun o => Lib.cell_of_heap h o
    refine (alike_same (A := A') (B := some ⟨w2.heap.size, 0, none⟩) (n := 4) (c := loopC) (H5.out.below hb (Nat.le_refl _)) (fun _ => ⟨w2.heap.size, 0, rfl, by simp, fun k hk => ?_⟩) rfl (by decide)).mono ?_
    · match k, hk with
      | 0, _ => exact ⟨c 0, c 1, c 2, c 3⟩
      | 1, _ => exact ⟨c 4, c 5, c 6, c 7⟩
      | 2, _ => exact ⟨c 8, c 9, c 10, c 11⟩
      | 3, _ => exact ⟨c 12, c 13, c 14, c 15⟩
      | k + 4, hk => exact absurd hk (by simp [loopC])
    rintro e w5 ⟨rfl, h5⟩
    have HB5 := Lib.hid (bthen (bthen HB2.out hb) h5)
    clear h5 hb h c
    go_wp2_with fail
    go_ret
    exact ⟨rfl, HB5.out⟩
  · exact absurd loop_fault h4.1
end Go.Proofs.Ytjfdokoigkdciaa
