/- Values of one node are right, walked: right, nodes, measure, Check. -/
import Derived.Test.YtakailalhpkfdaaMk
import Derived.RangeFuncNested
import Derived.RangeFuncBound
import Derived.RangeFuncCalls
import Derived.RangeFuncLeaves
import Derived.Shelf.Abstract
import Derived.Shelf.RegionOpen
import Derived.OwnWalkIn
import Derived.TacticsInMore
import Derived.LoopNIn
import Derived.LoopIn
namespace Go.Proofs.Ytakailalhpkfdaa
open Go.RowKit Go.Shelf

theorem fine_zero (w : World) : Calls Try.prog 69 #[.complex .f64 0 0] w (Ret (.bool true) w) := by
  have := fine_any Sm.zero Sm.zero w
  rwa [fl_zero] at this
/-- The nodes of which the values here are. -/
inductive Plain1 : Node → Prop
  | int (n : Int) : Plain1 (intN n)
  | bool (b : Bool) : Plain1 (boolN b)
  | text (s : ByteArray) (h : s.size ≤ 4095) : Plain1 (textN s)
  | num (a b : Int) (ha : Sm a) (hb : Sm b) : Plain1 (numN a b)
set_option maxRecDepth 100000 in
set_option maxHeartbeats 2000000 in
theorem right_int (n : Int) (w : World) : Calls Try.prog 61 #[(intN n).val] w (RetB (.bool true) w) := by
  have hsc := store_cx
  have o0 : (FloatKind.f64.format.order 0 0 == some .eq) = true := by decide
  unfold intN Node.val
  go_enter Try.func61, Try.ntmps61
  go_wp2_with (go_at_call 69; refine (fine_zero _).mono ?_; rintro e w1 ⟨rfl, rfl⟩)
  go_ret
  exact ⟨rfl, by go_grown⟩
set_option maxRecDepth 100000 in
set_option maxHeartbeats 2000000 in
theorem right_bool (b : Bool) (w : World) : Calls Try.prog 61 #[(boolN b).val] w (RetB (.bool true) w) := by
  have hsc := store_cx
  have o0 : (FloatKind.f64.format.order 0 0 == some .eq) = true := by decide
  unfold boolN Node.val
  cases b with
  | false =>
    go_enter Try.func61, Try.ntmps61
    go_wp2_with (go_at_call 69; refine (fine_zero _).mono ?_; rintro e w1 ⟨rfl, rfl⟩)
    go_ret
    exact ⟨rfl, by go_grown⟩
  | true =>
    go_enter Try.func61, Try.ntmps61
    go_wp2_with (go_at_call 69; refine (fine_zero _).mono ?_; rintro e w1 ⟨rfl, rfl⟩)
    go_ret
    exact ⟨rfl, by go_grown⟩
set_option maxRecDepth 100000 in
set_option maxHeartbeats 2000000 in
theorem right_text (s : ByteArray) (w : World) : Calls Try.prog 61 #[(textN s).val] w (RetB (.bool true) w) := by
  have hsc := store_cx
  have o0 : (FloatKind.f64.format.order 0 0 == some .eq) = true := by decide
  have hss : (s.toList == s.toList) = true := beq_self_eq_true _
  unfold textN Node.val
  go_enter Try.func61, Try.ntmps61
  go_wp2_with (go_at_call 69; refine (fine_zero _).mono ?_; rintro e w1 ⟨rfl, rfl⟩)
  go_ret
  exact ⟨rfl, by go_grown⟩
set_option maxRecDepth 100000 in
set_option maxHeartbeats 2000000 in
theorem right_num {a b : Int} (ha : Sm a) (hb : Sm b) (w : World) : Calls Try.prog 61 #[(numN a b).val] w (RetB (.bool true) w) := by
  have hsc := store_cx
  have oa : (FloatKind.f64.format.order (fl a) (fl a) == some .eq) = true := by rw [order_self ha.num]; rfl
  have ob : (FloatKind.f64.format.order (fl b) (fl b) == some .eq) = true := by rw [order_self hb.num]; rfl
  have HF := Lib.hid (fun w => fine_any ha hb w)
  unfold numN Node.val
  generalize fl a = fa at *
  generalize fl b = fb at *
  go_enter Try.func61, Try.ntmps61
  go_wp2_with (go_at_call 69; refine (HF.out _).mono ?_; rintro e w1 ⟨rfl, rfl⟩)
  go_ret
  exact ⟨rfl, by go_grown⟩
theorem right_any {x : Node} (h : Plain1 x) (w : World) : Calls Try.prog 61 #[x.val] w (RetB (.bool true) w) := by
  cases h with
  | int n => exact right_int n w
  | bool b => exact right_bool b w
  | text s h => exact right_text s w
  | num a b ha hb => exact right_num ha hb w
theorem Plain1.kind {x : Node} (h : Plain1 x) : x.kind = 1 ∨ x.kind = 2 ∨ x.kind = 3 ∨ x.kind = 4 := by cases h <;> simp [intN, boolN, textN, numN]
theorem Plain1.size {x : Node} (h : Plain1 x) : x.text.size ≤ 4095 := by
  cases h with
  | int n => exact Nat.zero_le _
  | bool b => exact Nat.zero_le _
  | text s h => exact h
  | num a b ha hb => exact Nat.zero_le _
theorem nodes_any (A : Option Addr) (n c : Nat) (w : World) : Calls Try.prog 57 #[.slice A n c] w (Ret (.func (.func 77) #[] #[.pointer (some ⟨w.heap.size, 0, none⟩)]) (w.alloc (.cells #[.slice A n c] 23))) := by
  go_enter Try.func57, Try.ntmps57
  go_wp2
  go_ret
  exact ⟨rfl, rfl⟩
attribute [local go_sem] Oper.semAt_some
set_option maxRecDepth 100000 in
set_option maxHeartbeats 2000000 in
/-- The nodes of a value of one: one round. -/
theorem nodes1_in (n : Nat) (hn : 1 ≤ n) (l Bs n₀ b c : Nat) (x : Node) (hk : x.kind ≠ 5) (hb : b < n₀) (J Jx : List Unit → World → Prop) (W : World) (hJ : AbidesFrom W.heap.size J)
    (hY : ∀ pre W1, J pre W1 → pre.length < 1 → YieldAt Fence.wide (n - 1) Try.prog l #[x.val, .int .i64 0] W1 fun e W' =>
      (e = .returned (.bool true) ∧ J (pre ++ [()]) W' ∧ Below n₀ W1 W') ∨ (e = .returned (.bool false) ∧ Jx (pre ++ [()]) W'))
    (hBs : W.cell? ⟨Bs, 0, none⟩ = some (.slice (some ⟨b, 0, none⟩) 1 c)) (hc : NodeAt W b 0 x) (h0 : J [] W) :
    CallsIn Fence.wide n Try.prog 77 #[.func (.yield l) #[] #[], .pointer (some ⟨Bs, 0, none⟩)] W fun e W' => (∃ v, e = .returned v) ∧
      ((∃ ys, ys = [()] ∧ J ys W') ∨ (∃ pre, pre = [()] ∧ Jx pre W')) := by
  have hsc := store_cx
  obtain ⟨c0, c1, c2, c3, c4⟩ := hc
  rw [Nat.zero_add] at c1 c2 c3 c4
  have hk5 : ((x.kind : Int) == 5) = false := beq_eq_false_iff_ne.2 (by omega)
  obtain ⟨kd, ks, it, tx, re, im⟩ := x
  unfold Node.val at hY
  dsimp only at *
  refine callsIn_of_wp Try.func77 rfl trivial ?_ rfl
  simp only [Try.ntmps77, List.size_toArray, List.length_cons, List.length_nil, Nat.reduceAdd, Nat.reduceSub, Array.replicate_succ, Array.replicate_zero, List.push_toArray, List.append_toArray, List.nil_append, List.cons_append]
  gi_wp2
  gi_loopw [3, 8] (fun o p wr => (o = .int .i64 1 ∧ p = .int .i64 0 ∧ J [] wr ∧ Below n₀ W wr ∧ W.heap.size ≤ wr.heap.size) ∨ (o = .int .i64 0 ∧ p = .int .i64 1 ∧ J [()] wr)) (fun _ p _ => 1 - (intOf p).toNat)
  case atStart => exact .inl ⟨rfl, rfl, h0, Below.refl _ _, Nat.le_refl _⟩
  case round =>
    rcases hrel with ⟨rfl, rfl, hJs, hnx, hsz⟩ | ⟨rfl, rfl, hJs⟩
    · have d0 := (hnx.cell (p := ⟨b, 0, none⟩) hb).trans c0
      have d1 := (hnx.cell (p := ⟨b, 1, none⟩) hb).trans c1
      have d2 := (hnx.cell (p := ⟨b, 2, none⟩) hb).trans c2
      have d3 := (hnx.cell (p := ⟨b, 3, none⟩) hb).trans c3
      have d4 := (hnx.cell (p := ⟨b, 4, none⟩) hb).trans c4
      have hJa := fun o => hJ [] wr (wr.alloc o) none hJs (World.grownBy_alloc wr o none) (fun r e => by cases e)
      obtain ⟨fn, tmps, assign, body, hy, hR⟩ := hY [] _ (hJa (.cells #[.int .u8 (kd : Int), .int .i64 ks, .int .i64 it, .string tx, .complex .f64 re im] 41)) (by simp)
      gi_wp2
      refine hR.mono ?_
      rintro e W3 (⟨rfl, hJ3, hk3⟩ | ⟨rfl, hJx3⟩)
      · gi_wp2
        go_roundw
        case rel => exact .inr ⟨rfl, rfl, hJ3⟩
        case measure => simp [intOf]
      · gi_wp2
        refine bodyPost_ret (results_none rfl _ _ _) rfl ?_
        exact ⟨⟨_, rfl⟩, .inr ⟨_, rfl, hJx3⟩⟩
    · gi_wp2
      go_end0
      exact ⟨⟨_, rfl⟩, .inl ⟨_, rfl, hJs⟩⟩
end Go.Proofs.Ytakailalhpkfdaa
