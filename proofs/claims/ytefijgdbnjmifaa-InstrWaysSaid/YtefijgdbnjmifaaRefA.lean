/- What an instruction takes, whether it ends, the depths behind it: the reference's, walked. -/
import Derived.Test.YtefijgdbnjmifaaRightD
import Derived.Deep.RegionHeld3
namespace Go.Proofs.Ytefijgdbnjmifaa
open Go.RowKit

theorem rends_any (op : Nat) (hop : op < 256) (w : World) : Calls Try.prog 12 #[.int .u8 (op : Int)] w (Ret (.bool (endsK op)) w) := by
  by_cases h8 : op = 8
  · subst h8
    go_enter Try.func12, Try.ntmps12
    go_wp2
    go_ret
    exact ⟨rfl, rfl⟩
  · by_cases h9 : op = 9
    · subst h9
      go_enter Try.func12, Try.ntmps12
      go_wp2
      go_ret
      exact ⟨rfl, rfl⟩
    · by_cases h28 : op = 28
      · subst h28
        go_enter Try.func12, Try.ntmps12
        go_wp2
        go_ret
        exact ⟨rfl, rfl⟩
      · have E := Lib.hid (show false = endsK op by simp [endsK, h8, h9, h28])
        have t8 : ((op : Int) == 8) = false := beq_eq_false_iff_ne.2 (by omega)
        have t9 : ((op : Int) == 9) = false := beq_eq_false_iff_ne.2 (by omega)
        have t28 : ((op : Int) == 28) = false := beq_eq_false_iff_ne.2 (by omega)
        clear h8 h9 h28 hop
        go_enter Try.func12, Try.ntmps12
        go_wp2
        go_ret
        exact ⟨ret_bool E.out, rfl⟩
theorem rtakes_any (op : Nat) (a int : Int) (text : ByteArray) (hop : op < 256) (w : World) :
    Calls Try.prog 11 #[.agg #[.int .u8 (op : Int), .int .i64 a, .int .i64 int, .string text]] w (RetB (.int .i64 (takesI ⟨op, a, int, text.data.toList⟩)) w) := by
  by_cases h3 : aK op = 3
  · have E := Lib.hid (show a = takesI ⟨op, a, int, text.data.toList⟩ from (if_pos h3).symm)
    have EK := Lib.hid (show rowV op = .agg #[.string (wordK op), .int .i64 3, .bool (numK op), .bool (decide (textK op = 1)), .bool (decide (textK op = 2)), .int .i64 (takesK op), .int .i64 (leaveK op)] from by unfold rowV; rw [h3]; rfl)
    clear h3
    go_enter Try.func11, Try.ntmps11
    go_wp2_with fail
    refine (row_any op hop _).mono ?_
    rintro e w1 ⟨rfl, h1⟩
    rw [EK.out]
    have c1 := (bcell h1).1
    have c2 := (bcell h1).2
    have s1 : w.heap.size < w1.heap.size := szlt h1 (by simp)
    have HB := Lib.hid (fun o : Obj => bthen (bthen ((Below.refl _ w).alloc (Nat.le_refl _) _) h1) ((Below.refl _ w1).alloc (Nat.le_refl _) o))
    go_wp2_with fail
    go_ret
    exact ⟨ret_int E.out, HB.out _⟩
  · have E := Lib.hid (show takesK op = takesI ⟨op, a, int, text.data.toList⟩ from (if_neg h3).symm)
    have t3 : ((aK op : Int) == 3) = false := beq_eq_false_iff_ne.2 (by omega)
    clear h3
    go_enter Try.func11, Try.ntmps11
    go_wp2_with fail
    refine (row_any op hop _).mono ?_
    rintro e w1 ⟨rfl, h1⟩
    simp only [rowV]
    have c1 := (bcell h1).1
    have c2 := (bcell h1).2
    have s1 : w.heap.size < w1.heap.size := szlt h1 (by simp)
    have HB := Lib.hid (fun o : Obj => bthen (bthen ((Below.refl _ w).alloc (Nat.le_refl _) _) h1) ((Below.refl _ w1).alloc (Nat.le_refl _) o))
    go_wp2_with fail
    go_ret
    exact ⟨ret_int E.out, HB.out _⟩
set_option maxRecDepth 100000 in
set_option maxHeartbeats 2000000 in
theorem rbeh_53 (op : Nat) (a int : Int) (text : ByteArray) (hop : op < 256) (depth tk : Int) (hd0 : 0 ≤ depth) (hd1 : depth ≤ 8192) (hf : tk ≤ depth) (ht0 : 0 ≤ tk) (HT : Hid (∀ w, Calls Try.prog 11 #[.agg #[.int .u8 (op : Int), .int .i64 a, .int .i64 int, .string text]] w (RetB (.int .i64 tk) w))) (t53 : ((op : Int) == 53) = true) (w : World) :
    Calls Try.prog 13 #[.agg #[.int .u8 (op : Int), .int .i64 a, .int .i64 int, .string text], .int .i64 depth] w (RetB (.tuple #[.int .i64 (0), .int .i64 (depth - tk + leaveK op)]) w) := by
  have hl := leaveK_01 op
  have hw1 : IntKind.i64.wrap (depth - tk) = depth - tk := IntWalk.i64_in _ (by omega)
  have hw2 : IntKind.i64.wrap (depth - tk + leaveK op) = depth - tk + leaveK op := IntWalk.i64_in _ (by omega)
  have HR : Hid (∀ w, Calls Try.prog 14 #[.int .u8 (op : Int)] w (RetB (.agg #[.string (wordK op), .int .i64 (aK op), .bool (numK op), .bool (decide (textK op = 1)), .bool (decide (textK op = 2)), .int .i64 (takesK op), .int .i64 (leaveK op)]) w)) := Lib.hid (fun w => row_any op hop w)
  have hfl : ∀ w, (Instr.field 42 (.agg #[.string (wordK op), .int .i64 (aK op), .bool (numK op), .bool (decide (textK op = 1)), .bool (decide (textK op = 2)), .int .i64 (takesK op), .int .i64 (leaveK op)]) 6).run Try.prog w = .ok (.int .i64 (leaveK op)) w := fun _ => by kernel_rfl
  have q0 : (w.alloc (.cells #[.int .u8 (op : Int), .int .i64 a, .int .i64 int, .string text] 36)).cell? ⟨w.heap.size, 0, none⟩ = some (.int .u8 (op : Int)) := by simp
  have q1 : (w.alloc (.cells #[.int .u8 (op : Int), .int .i64 a, .int .i64 int, .string text] 36)).cell? ⟨w.heap.size, 1, none⟩ = some (.int .i64 a) := by simp
  have q2 : (w.alloc (.cells #[.int .u8 (op : Int), .int .i64 a, .int .i64 int, .string text] 36)).cell? ⟨w.heap.size, 2, none⟩ = some (.int .i64 int) := by simp
  have q3 : (w.alloc (.cells #[.int .u8 (op : Int), .int .i64 a, .int .i64 int, .string text] 36)).cell? ⟨w.heap.size, 3, none⟩ = some (.string text) := by simp
  go_enter Try.func13, Try.ntmps13
  go_wp2_with fail
  go_region_held3 (fun w' => w'.cell? ⟨w.heap.size, 0, none⟩ = some (.int .u8 (op : Int)) ∧ w'.cell? ⟨w.heap.size, 1, none⟩ = some (.int .i64 a) ∧ w'.cell? ⟨w.heap.size, 2, none⟩ = some (.int .i64 int) ∧ w'.cell? ⟨w.heap.size, 3, none⟩ = some (.string text))
    (first | exact ⟨q0, q1, q2, q3⟩ | exact ⟨j0, j1, j2, j3⟩ | exact ⟨k0, k1, k2, k3⟩) (first | (go_at_call 11; refine (HT.out _).mono ?_; rintro e wj ⟨rfl, hj⟩; have cj := (bcell hj).1; have zj : w.heap.size < wj.heap.size := (by first | exact szlt hj (by simp) | exact szlt hj zk); have j0 := (by first | exact (cj _ 0 (by simp)).trans q0 | exact (cj _ 0 zk).trans k0); have j1 := (by first | exact (cj _ 1 (by simp)).trans q1 | exact (cj _ 1 zk).trans k1); have j2 := (by first | exact (cj _ 2 (by simp)).trans q2 | exact (cj _ 2 zk).trans k2); have j3 := (by first | exact (cj _ 3 (by simp)).trans q3 | exact (cj _ 3 zk).trans k3)) | (go_at_call 14; refine (HR.out _).mono ?_; rintro e wk ⟨rfl, hk⟩; have ck := (bcell hk).1; have zk : w.heap.size < wk.heap.size := (by first | exact szlt hk (by simp) | exact szlt hk zj); have k0 := (by first | exact (ck _ 0 (by simp)).trans q0 | exact (ck _ 0 zj).trans j0); have k1 := (by first | exact (ck _ 1 (by simp)).trans q1 | exact (ck _ 1 zj).trans j1); have k2 := (by first | exact (ck _ 2 (by simp)).trans q2 | exact (ck _ 2 zj).trans j2); have k3 := (by first | exact (ck _ 3 (by simp)).trans q3 | exact (ck _ 3 zj).trans j3)))
  all_goals
    have cb : ∀ o : Obj, Below w.heap.size w (w.alloc o) := fun o => (Below.refl _ w).alloc (Nat.le_refl _) o
    clear hw1 hw2
    go_wp2_with fail
    go_ret2
    first
      | exact ⟨rfl, bthen (bthen (cb _).drew hj) hk⟩
      | exact ⟨rfl, bthen (bthen (cb _).drew hk) hj⟩
set_option maxRecDepth 100000 in
set_option maxHeartbeats 2000000 in
theorem rbeh_3 (op : Nat) (a int : Int) (text : ByteArray) (hop : op < 256) (depth tk : Int) (hd0 : 0 ≤ depth) (hd1 : depth ≤ 8192) (hf : tk ≤ depth) (ht0 : 0 ≤ tk) (HT : Hid (∀ w, Calls Try.prog 11 #[.agg #[.int .u8 (op : Int), .int .i64 a, .int .i64 int, .string text]] w (RetB (.int .i64 tk) w))) (t53 : ((op : Int) == 53) = false) (t3 : ((op : Int) == 3) = true) (w : World) :
    Calls Try.prog 13 #[.agg #[.int .u8 (op : Int), .int .i64 a, .int .i64 int, .string text], .int .i64 depth] w (RetB (.tuple #[.int .i64 (depth), .int .i64 (depth - tk + leaveK op)]) w) := by
  have hl := leaveK_01 op
  have hw1 : IntKind.i64.wrap (depth - tk) = depth - tk := IntWalk.i64_in _ (by omega)
  have hw2 : IntKind.i64.wrap (depth - tk + leaveK op) = depth - tk + leaveK op := IntWalk.i64_in _ (by omega)
  have HR : Hid (∀ w, Calls Try.prog 14 #[.int .u8 (op : Int)] w (RetB (.agg #[.string (wordK op), .int .i64 (aK op), .bool (numK op), .bool (decide (textK op = 1)), .bool (decide (textK op = 2)), .int .i64 (takesK op), .int .i64 (leaveK op)]) w)) := Lib.hid (fun w => row_any op hop w)
  have hfl : ∀ w, (Instr.field 42 (.agg #[.string (wordK op), .int .i64 (aK op), .bool (numK op), .bool (decide (textK op = 1)), .bool (decide (textK op = 2)), .int .i64 (takesK op), .int .i64 (leaveK op)]) 6).run Try.prog w = .ok (.int .i64 (leaveK op)) w := fun _ => by kernel_rfl
  have q0 : (w.alloc (.cells #[.int .u8 (op : Int), .int .i64 a, .int .i64 int, .string text] 36)).cell? ⟨w.heap.size, 0, none⟩ = some (.int .u8 (op : Int)) := by simp
  have q1 : (w.alloc (.cells #[.int .u8 (op : Int), .int .i64 a, .int .i64 int, .string text] 36)).cell? ⟨w.heap.size, 1, none⟩ = some (.int .i64 a) := by simp
  have q2 : (w.alloc (.cells #[.int .u8 (op : Int), .int .i64 a, .int .i64 int, .string text] 36)).cell? ⟨w.heap.size, 2, none⟩ = some (.int .i64 int) := by simp
  have q3 : (w.alloc (.cells #[.int .u8 (op : Int), .int .i64 a, .int .i64 int, .string text] 36)).cell? ⟨w.heap.size, 3, none⟩ = some (.string text) := by simp
  go_enter Try.func13, Try.ntmps13
  go_wp2_with fail
  go_region_held3 (fun w' => w'.cell? ⟨w.heap.size, 0, none⟩ = some (.int .u8 (op : Int)) ∧ w'.cell? ⟨w.heap.size, 1, none⟩ = some (.int .i64 a) ∧ w'.cell? ⟨w.heap.size, 2, none⟩ = some (.int .i64 int) ∧ w'.cell? ⟨w.heap.size, 3, none⟩ = some (.string text))
    (first | exact ⟨q0, q1, q2, q3⟩ | exact ⟨j0, j1, j2, j3⟩ | exact ⟨k0, k1, k2, k3⟩) (first | (go_at_call 11; refine (HT.out _).mono ?_; rintro e wj ⟨rfl, hj⟩; have cj := (bcell hj).1; have zj : w.heap.size < wj.heap.size := (by first | exact szlt hj (by simp) | exact szlt hj zk); have j0 := (by first | exact (cj _ 0 (by simp)).trans q0 | exact (cj _ 0 zk).trans k0); have j1 := (by first | exact (cj _ 1 (by simp)).trans q1 | exact (cj _ 1 zk).trans k1); have j2 := (by first | exact (cj _ 2 (by simp)).trans q2 | exact (cj _ 2 zk).trans k2); have j3 := (by first | exact (cj _ 3 (by simp)).trans q3 | exact (cj _ 3 zk).trans k3)) | (go_at_call 14; refine (HR.out _).mono ?_; rintro e wk ⟨rfl, hk⟩; have ck := (bcell hk).1; have zk : w.heap.size < wk.heap.size := (by first | exact szlt hk (by simp) | exact szlt hk zj); have k0 := (by first | exact (ck _ 0 (by simp)).trans q0 | exact (ck _ 0 zj).trans j0); have k1 := (by first | exact (ck _ 1 (by simp)).trans q1 | exact (ck _ 1 zj).trans j1); have k2 := (by first | exact (ck _ 2 (by simp)).trans q2 | exact (ck _ 2 zj).trans j2); have k3 := (by first | exact (ck _ 3 (by simp)).trans q3 | exact (ck _ 3 zj).trans j3)))
  all_goals
    have cb : ∀ o : Obj, Below w.heap.size w (w.alloc o) := fun o => (Below.refl _ w).alloc (Nat.le_refl _) o
    clear hw1 hw2
    go_wp2_with fail
    go_ret2
    first
      | exact ⟨rfl, bthen (bthen (cb _).drew hj) hk⟩
      | exact ⟨rfl, bthen (bthen (cb _).drew hk) hj⟩
set_option maxRecDepth 100000 in
set_option maxHeartbeats 2000000 in
theorem rbeh_4 (op : Nat) (a int : Int) (text : ByteArray) (hop : op < 256) (depth tk : Int) (hd0 : 0 ≤ depth) (hd1 : depth ≤ 8192) (hf : tk ≤ depth) (ht0 : 0 ≤ tk) (HT : Hid (∀ w, Calls Try.prog 11 #[.agg #[.int .u8 (op : Int), .int .i64 a, .int .i64 int, .string text]] w (RetB (.int .i64 tk) w))) (t53 : ((op : Int) == 53) = false) (t3 : ((op : Int) == 3) = false) (t4 : ((op : Int) == 4) = true) (w : World) :
    Calls Try.prog 13 #[.agg #[.int .u8 (op : Int), .int .i64 a, .int .i64 int, .string text], .int .i64 depth] w (RetB (.tuple #[.int .i64 (depth), .int .i64 (depth - tk + leaveK op)]) w) := by
  have hl := leaveK_01 op
  have hw1 : IntKind.i64.wrap (depth - tk) = depth - tk := IntWalk.i64_in _ (by omega)
  have hw2 : IntKind.i64.wrap (depth - tk + leaveK op) = depth - tk + leaveK op := IntWalk.i64_in _ (by omega)
  have HR : Hid (∀ w, Calls Try.prog 14 #[.int .u8 (op : Int)] w (RetB (.agg #[.string (wordK op), .int .i64 (aK op), .bool (numK op), .bool (decide (textK op = 1)), .bool (decide (textK op = 2)), .int .i64 (takesK op), .int .i64 (leaveK op)]) w)) := Lib.hid (fun w => row_any op hop w)
  have hfl : ∀ w, (Instr.field 42 (.agg #[.string (wordK op), .int .i64 (aK op), .bool (numK op), .bool (decide (textK op = 1)), .bool (decide (textK op = 2)), .int .i64 (takesK op), .int .i64 (leaveK op)]) 6).run Try.prog w = .ok (.int .i64 (leaveK op)) w := fun _ => by kernel_rfl
  have q0 : (w.alloc (.cells #[.int .u8 (op : Int), .int .i64 a, .int .i64 int, .string text] 36)).cell? ⟨w.heap.size, 0, none⟩ = some (.int .u8 (op : Int)) := by simp
  have q1 : (w.alloc (.cells #[.int .u8 (op : Int), .int .i64 a, .int .i64 int, .string text] 36)).cell? ⟨w.heap.size, 1, none⟩ = some (.int .i64 a) := by simp
  have q2 : (w.alloc (.cells #[.int .u8 (op : Int), .int .i64 a, .int .i64 int, .string text] 36)).cell? ⟨w.heap.size, 2, none⟩ = some (.int .i64 int) := by simp
  have q3 : (w.alloc (.cells #[.int .u8 (op : Int), .int .i64 a, .int .i64 int, .string text] 36)).cell? ⟨w.heap.size, 3, none⟩ = some (.string text) := by simp
  go_enter Try.func13, Try.ntmps13
  go_wp2_with fail
  go_region_held3 (fun w' => w'.cell? ⟨w.heap.size, 0, none⟩ = some (.int .u8 (op : Int)) ∧ w'.cell? ⟨w.heap.size, 1, none⟩ = some (.int .i64 a) ∧ w'.cell? ⟨w.heap.size, 2, none⟩ = some (.int .i64 int) ∧ w'.cell? ⟨w.heap.size, 3, none⟩ = some (.string text))
    (first | exact ⟨q0, q1, q2, q3⟩ | exact ⟨j0, j1, j2, j3⟩ | exact ⟨k0, k1, k2, k3⟩) (first | (go_at_call 11; refine (HT.out _).mono ?_; rintro e wj ⟨rfl, hj⟩; have cj := (bcell hj).1; have zj : w.heap.size < wj.heap.size := (by first | exact szlt hj (by simp) | exact szlt hj zk); have j0 := (by first | exact (cj _ 0 (by simp)).trans q0 | exact (cj _ 0 zk).trans k0); have j1 := (by first | exact (cj _ 1 (by simp)).trans q1 | exact (cj _ 1 zk).trans k1); have j2 := (by first | exact (cj _ 2 (by simp)).trans q2 | exact (cj _ 2 zk).trans k2); have j3 := (by first | exact (cj _ 3 (by simp)).trans q3 | exact (cj _ 3 zk).trans k3)) | (go_at_call 14; refine (HR.out _).mono ?_; rintro e wk ⟨rfl, hk⟩; have ck := (bcell hk).1; have zk : w.heap.size < wk.heap.size := (by first | exact szlt hk (by simp) | exact szlt hk zj); have k0 := (by first | exact (ck _ 0 (by simp)).trans q0 | exact (ck _ 0 zj).trans j0); have k1 := (by first | exact (ck _ 1 (by simp)).trans q1 | exact (ck _ 1 zj).trans j1); have k2 := (by first | exact (ck _ 2 (by simp)).trans q2 | exact (ck _ 2 zj).trans j2); have k3 := (by first | exact (ck _ 3 (by simp)).trans q3 | exact (ck _ 3 zj).trans j3)))
  all_goals
    have cb : ∀ o : Obj, Below w.heap.size w (w.alloc o) := fun o => (Below.refl _ w).alloc (Nat.le_refl _) o
    clear hw1 hw2
    go_wp2_with fail
    go_ret2
    first
      | exact ⟨rfl, bthen (bthen (cb _).drew hj) hk⟩
      | exact ⟨rfl, bthen (bthen (cb _).drew hk) hj⟩
set_option maxRecDepth 100000 in
set_option maxHeartbeats 2000000 in
theorem rbeh_x (op : Nat) (a int : Int) (text : ByteArray) (hop : op < 256) (depth tk : Int) (hd0 : 0 ≤ depth) (hd1 : depth ≤ 8192) (hf : tk ≤ depth) (ht0 : 0 ≤ tk) (HT : Hid (∀ w, Calls Try.prog 11 #[.agg #[.int .u8 (op : Int), .int .i64 a, .int .i64 int, .string text]] w (RetB (.int .i64 tk) w))) (t53 : ((op : Int) == 53) = false) (t3 : ((op : Int) == 3) = false) (t4 : ((op : Int) == 4) = false) (w : World) :
    Calls Try.prog 13 #[.agg #[.int .u8 (op : Int), .int .i64 a, .int .i64 int, .string text], .int .i64 depth] w (RetB (.tuple #[.int .i64 (depth - tk + leaveK op), .int .i64 (depth - tk + leaveK op)]) w) := by
  have hl := leaveK_01 op
  have hw1 : IntKind.i64.wrap (depth - tk) = depth - tk := IntWalk.i64_in _ (by omega)
  have hw2 : IntKind.i64.wrap (depth - tk + leaveK op) = depth - tk + leaveK op := IntWalk.i64_in _ (by omega)
  have HR : Hid (∀ w, Calls Try.prog 14 #[.int .u8 (op : Int)] w (RetB (.agg #[.string (wordK op), .int .i64 (aK op), .bool (numK op), .bool (decide (textK op = 1)), .bool (decide (textK op = 2)), .int .i64 (takesK op), .int .i64 (leaveK op)]) w)) := Lib.hid (fun w => row_any op hop w)
  have hfl : ∀ w, (Instr.field 42 (.agg #[.string (wordK op), .int .i64 (aK op), .bool (numK op), .bool (decide (textK op = 1)), .bool (decide (textK op = 2)), .int .i64 (takesK op), .int .i64 (leaveK op)]) 6).run Try.prog w = .ok (.int .i64 (leaveK op)) w := fun _ => by kernel_rfl
  have q0 : (w.alloc (.cells #[.int .u8 (op : Int), .int .i64 a, .int .i64 int, .string text] 36)).cell? ⟨w.heap.size, 0, none⟩ = some (.int .u8 (op : Int)) := by simp
  have q1 : (w.alloc (.cells #[.int .u8 (op : Int), .int .i64 a, .int .i64 int, .string text] 36)).cell? ⟨w.heap.size, 1, none⟩ = some (.int .i64 a) := by simp
  have q2 : (w.alloc (.cells #[.int .u8 (op : Int), .int .i64 a, .int .i64 int, .string text] 36)).cell? ⟨w.heap.size, 2, none⟩ = some (.int .i64 int) := by simp
  have q3 : (w.alloc (.cells #[.int .u8 (op : Int), .int .i64 a, .int .i64 int, .string text] 36)).cell? ⟨w.heap.size, 3, none⟩ = some (.string text) := by simp
  go_enter Try.func13, Try.ntmps13
  go_wp2_with fail
  go_region_held3 (fun w' => w'.cell? ⟨w.heap.size, 0, none⟩ = some (.int .u8 (op : Int)) ∧ w'.cell? ⟨w.heap.size, 1, none⟩ = some (.int .i64 a) ∧ w'.cell? ⟨w.heap.size, 2, none⟩ = some (.int .i64 int) ∧ w'.cell? ⟨w.heap.size, 3, none⟩ = some (.string text))
    (first | exact ⟨q0, q1, q2, q3⟩ | exact ⟨j0, j1, j2, j3⟩ | exact ⟨k0, k1, k2, k3⟩) (first | (go_at_call 11; refine (HT.out _).mono ?_; rintro e wj ⟨rfl, hj⟩; have cj := (bcell hj).1; have zj : w.heap.size < wj.heap.size := (by first | exact szlt hj (by simp) | exact szlt hj zk); have j0 := (by first | exact (cj _ 0 (by simp)).trans q0 | exact (cj _ 0 zk).trans k0); have j1 := (by first | exact (cj _ 1 (by simp)).trans q1 | exact (cj _ 1 zk).trans k1); have j2 := (by first | exact (cj _ 2 (by simp)).trans q2 | exact (cj _ 2 zk).trans k2); have j3 := (by first | exact (cj _ 3 (by simp)).trans q3 | exact (cj _ 3 zk).trans k3)) | (go_at_call 14; refine (HR.out _).mono ?_; rintro e wk ⟨rfl, hk⟩; have ck := (bcell hk).1; have zk : w.heap.size < wk.heap.size := (by first | exact szlt hk (by simp) | exact szlt hk zj); have k0 := (by first | exact (ck _ 0 (by simp)).trans q0 | exact (ck _ 0 zj).trans j0); have k1 := (by first | exact (ck _ 1 (by simp)).trans q1 | exact (ck _ 1 zj).trans j1); have k2 := (by first | exact (ck _ 2 (by simp)).trans q2 | exact (ck _ 2 zj).trans j2); have k3 := (by first | exact (ck _ 3 (by simp)).trans q3 | exact (ck _ 3 zj).trans j3)))
  all_goals
    have cb : ∀ o : Obj, Below w.heap.size w (w.alloc o) := fun o => (Below.refl _ w).alloc (Nat.le_refl _) o
    clear hw1 hw2
    go_wp2_with fail
    go_ret2
    first
      | exact ⟨rfl, bthen (bthen (cb _).drew hj) hk⟩
      | exact ⟨rfl, bthen (bthen (cb _).drew hk) hj⟩
theorem rbehind_any (op : Nat) (a int : Int) (text : ByteArray) (hop : op < 256) (depth : Int) (hd0 : 0 ≤ depth) (hd1 : depth ≤ 8192) (hf : takesI ⟨op, a, int, text.data.toList⟩ ≤ depth) (ht0 : 0 ≤ takesI ⟨op, a, int, text.data.toList⟩) (w : World) :
    Calls Try.prog 13 #[.agg #[.int .u8 (op : Int), .int .i64 a, .int .i64 int, .string text], .int .i64 depth] w
      (RetB (.tuple #[.int .i64 (thereI ⟨op, a, int, text.data.toList⟩ depth), .int .i64 (nextI ⟨op, a, int, text.data.toList⟩ depth)]) w) := by
  have HT := Lib.hid (fun w => rtakes_any op a int text hop w)
  have TH : thereI ⟨op, a, int, text.data.toList⟩ depth = if op = 53 then 0 else if op = 3 ∨ op = 4 then depth else depth - takesI ⟨op, a, int, text.data.toList⟩ + leaveK op := rfl
  have NX : nextI ⟨op, a, int, text.data.toList⟩ depth = depth - takesI ⟨op, a, int, text.data.toList⟩ + leaveK op := rfl
  rw [TH, NX]
  clear TH NX
  generalize takesI ⟨op, a, int, text.data.toList⟩ = tk at *
  by_cases h53 : op = 53
  · rw [if_pos h53]
    exact rbeh_53 op a int text hop depth tk hd0 hd1 hf ht0 HT (by simpa using (by omega : (op : Int) = 53)) w
  · rw [if_neg h53]
    have t53 : ((op : Int) == 53) = false := beq_eq_false_iff_ne.2 (by omega)
    by_cases h3 : op = 3
    · rw [if_pos (.inl h3)]
      exact rbeh_3 op a int text hop depth tk hd0 hd1 hf ht0 HT t53 (by simpa using (by omega : (op : Int) = 3)) w
    · have t3 : ((op : Int) == 3) = false := beq_eq_false_iff_ne.2 (by omega)
      by_cases h4 : op = 4
      · rw [if_pos (.inr h4)]
        exact rbeh_4 op a int text hop depth tk hd0 hd1 hf ht0 HT t53 t3 (by simpa using (by omega : (op : Int) = 4)) w
      · rw [if_neg (by omega)]
        exact rbeh_x op a int text hop depth tk hd0 hd1 hf ht0 HT t53 t3 (beq_eq_false_iff_ne.2 (by omega)) w
end Go.Proofs.Ytefijgdbnjmifaa
