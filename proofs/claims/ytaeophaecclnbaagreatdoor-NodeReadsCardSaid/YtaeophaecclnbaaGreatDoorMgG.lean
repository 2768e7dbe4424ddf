/- Is a node right? The program's function at any right node, walked. The nodes of a value, handed out one by one, walked. The nodes of a value, as a sequence that stops. What is known of each node of a right value; the places that were handed out. value.Check of a right value, walked. Right values, in plain Lean: they go on until their end; a list in one holds no more values than there are nodes. -/
import Derived.Test.YtaeophaecclnbaaGreatDoorMgC
import Derived.Test.YtaeophaecclnbaaGreatDoorMgA
import Derived.RangeFuncNested
import Derived.RangeFuncBound
import Derived.RangeFuncCalls
import Derived.RangeFuncLeaves
import Derived.Shelf.Abstract
import Derived.Shelf.RegionOpen
import Derived.OwnWalkIn
import Derived.TacticsInMore
import Derived.LoopNIn
import Derived.LoopIn
namespace Go.Proofs.YtaeophaecclnbaaGreatDoor
open Go.RowKit

theorem size_none {s : ByteArray} (h : s.size = 0) : s = ⟨#[]⟩ := by
  cases s with
  | mk a =>
    have : a.size = 0 := h
    rw [Array.eq_empty_of_size_eq_zero this]
/-- A right node, in parts. -/
structure RightP (x : Node) : Prop where
  fine : fineB x.re x.im = true
  kind : x.kind ≤ 5
  kids : x.kind = 5 ∨ x.kids = 0
  int : x.kind = 1 ∨ x.kind = 2 ∨ x.int = 0
  text : x.kind = 3 ∨ x.text = ⟨#[]⟩
  num : x.kind = 4 ∨ (x.re = 0 ∧ x.im = 0)
  bool : x.kind = 1 → x.int = 0 ∨ x.int = 1
  list : x.kind = 5 → 0 ≤ x.kids
theorem right_parts {x : Node} (h : rightN x = true) : RightP x := by
  unfold rightN at h
  simp only [Bool.and_eq_true, Bool.or_eq_true, decide_eq_true_eq, Bool.not_eq_true', decide_eq_false_iff_not] at h
  obtain ⟨⟨⟨⟨⟨⟨⟨h1, h2⟩, h3⟩, h4⟩, h5⟩, h6⟩, h7⟩, h8⟩ := h
  exact ⟨h1, h2, h3, by omega, h5.imp_right size_none, h6, fun c => by omega, fun c => by omega⟩
theorem fine_fin {x y : Nat} (h : fineB x y = true) : fin x = true ∧ fin y = true := by
  unfold fineB at h
  simp only [Bool.and_eq_true] at h
  exact ⟨h.1.1.1, h.1.1.2⟩
theorem fin_self {x : Nat} (h : fin x = true) : (FloatKind.f64.format.order x x == some .eq) = true := by rw [order_self (num_of_fin h)]; rfl
set_option maxRecDepth 100000 in
set_option maxHeartbeats 4000000 in
theorem rightn_any {x : Node} (h : rightN x = true) (hok : OkNode x) (w : World) : Calls Tryz.prog 109 #[x.val] w (RetB (.bool true) w) := by
  have P := right_parts h
  have HF := Lib.hid (fun w => fine_all hok.re hok.im w)
  rw [P.fine] at HF
  have hsc := store_cx
  have o0 : (FloatKind.f64.format.order 0 0 == some .eq) = true := by decide
  have oa := fin_self (fine_fin P.fine).1
  have ob := fin_self (fine_fin P.fine).2
  have i0 := hok.i0
  have i1 := hok.i1
  have k0 := hok.k0
  have k1 := hok.k1
  obtain ⟨k, ki, i, t, re, im⟩ := x
  unfold Node.val
  obtain ⟨_, hk, p1, p2, p3, p4, p5, p6⟩ := P
  clear h hok
  simp only at *
  have hss : (t.toList == t.toList) = true := beq_self_eq_true _
  have hii : (i == i) = true := beq_self_eq_true _
  have hkk : (ki == ki) = true := beq_self_eq_true _
  have hcases : k = 0 ∨ k = 1 ∨ k = 2 ∨ k = 3 ∨ k = 4 ∨ k = 5 := by omega
  rcases hcases with rfl | rfl | rfl | rfl | rfl | rfl
  · obtain rfl : ki = 0 := by omega
    obtain rfl : i = 0 := by omega
    obtain rfl : t = ⟨#[]⟩ := p3.resolve_left (by decide)
    obtain ⟨rfl, rfl⟩ : re = 0 ∧ im = 0 := p4.resolve_left (by decide)
    go_enter Tryz.func109, Tryz.ntmps109
    go_wp2_with fail
    refine (HF.out _).mono ?_
    rintro e w1 ⟨rfl, hb⟩
    have kc := fun j => hb.cell (p := ⟨w.heap.size, j, none⟩) (by simp)
    have x0 := kc 0
    have x1 := kc 1
    have x2 := kc 2
    have x3 := kc 3
    have x4 := kc 4
    simp at x0 x1 x2 x3 x4
    have hsz : w.heap.size < w1.heap.size := by have := hb.size; simp at this; omega
    have HB := Lib.hid (show Below w.heap.size w w1 from ((Below.refl _ w).alloc (Nat.le_refl _) _).trans (hb.mono (by simp)))
    clear kc hb
    go_wp2_with fail
    all_goals first
      | (exfalso; omega)
      | (go_ret
         exact ⟨rfl, by have hb0 := HB.out; go_grown; try exact hb0⟩)
  · obtain rfl : ki = 0 := by omega
    obtain rfl : t = ⟨#[]⟩ := p3.resolve_left (by decide)
    obtain ⟨rfl, rfl⟩ : re = 0 ∧ im = 0 := p4.resolve_left (by decide)
    rcases p5 rfl with rfl | rfl
    all_goals
      go_enter Tryz.func109, Tryz.ntmps109
      go_wp2_with fail
      refine (HF.out _).mono ?_
      rintro e w1 ⟨rfl, hb⟩
      have kc := fun j => hb.cell (p := ⟨w.heap.size, j, none⟩) (by simp)
      have x0 := kc 0
      have x1 := kc 1
      have x2 := kc 2
      have x3 := kc 3
      have x4 := kc 4
      simp at x0 x1 x2 x3 x4
      have hsz : w.heap.size < w1.heap.size := by have := hb.size; simp at this; omega
      have HB := Lib.hid (show Below w.heap.size w w1 from ((Below.refl _ w).alloc (Nat.le_refl _) _).trans (hb.mono (by simp)))
      clear kc hb
      go_wp2_with fail
      all_goals first
        | (exfalso; omega)
        | (go_ret
           exact ⟨rfl, by have hb0 := HB.out; go_grown; try exact hb0⟩)
  · obtain rfl : ki = 0 := by omega
    obtain rfl : t = ⟨#[]⟩ := p3.resolve_left (by decide)
    obtain ⟨rfl, rfl⟩ : re = 0 ∧ im = 0 := p4.resolve_left (by decide)
    go_enter Tryz.func109, Tryz.ntmps109
    go_wp2_with fail
    refine (HF.out _).mono ?_
    rintro e w1 ⟨rfl, hb⟩
    have kc := fun j => hb.cell (p := ⟨w.heap.size, j, none⟩) (by simp)
    have x0 := kc 0
    have x1 := kc 1
    have x2 := kc 2
    have x3 := kc 3
    have x4 := kc 4
    simp at x0 x1 x2 x3 x4
    have hsz : w.heap.size < w1.heap.size := by have := hb.size; simp at this; omega
    have HB := Lib.hid (show Below w.heap.size w w1 from ((Below.refl _ w).alloc (Nat.le_refl _) _).trans (hb.mono (by simp)))
    clear kc hb
    go_wp2_with fail
    all_goals first
      | (exfalso; omega)
      | (go_ret
         exact ⟨rfl, by have hb0 := HB.out; go_grown; try exact hb0⟩)
  · obtain rfl : ki = 0 := by omega
    obtain rfl : i = 0 := by omega
    obtain ⟨rfl, rfl⟩ : re = 0 ∧ im = 0 := p4.resolve_left (by decide)
    go_enter Tryz.func109, Tryz.ntmps109
    go_wp2_with fail
    refine (HF.out _).mono ?_
    rintro e w1 ⟨rfl, hb⟩
    have kc := fun j => hb.cell (p := ⟨w.heap.size, j, none⟩) (by simp)
    have x0 := kc 0
    have x1 := kc 1
    have x2 := kc 2
    have x3 := kc 3
    have x4 := kc 4
    simp at x0 x1 x2 x3 x4
    have hsz : w.heap.size < w1.heap.size := by have := hb.size; simp at this; omega
    have HB := Lib.hid (show Below w.heap.size w w1 from ((Below.refl _ w).alloc (Nat.le_refl _) _).trans (hb.mono (by simp)))
    clear kc hb
    go_wp2_with fail
    all_goals first
      | (exfalso; omega)
      | (go_ret
         exact ⟨rfl, by have hb0 := HB.out; go_grown; try exact hb0⟩)
  · obtain rfl : ki = 0 := by omega
    obtain rfl : i = 0 := by omega
    obtain rfl : t = ⟨#[]⟩ := p3.resolve_left (by decide)
    go_enter Tryz.func109, Tryz.ntmps109
    go_wp2_with fail
    refine (HF.out _).mono ?_
    rintro e w1 ⟨rfl, hb⟩
    have kc := fun j => hb.cell (p := ⟨w.heap.size, j, none⟩) (by simp)
    have x0 := kc 0
    have x1 := kc 1
    have x2 := kc 2
    have x3 := kc 3
    have x4 := kc 4
    simp at x0 x1 x2 x3 x4
    have hsz : w.heap.size < w1.heap.size := by have := hb.size; simp at this; omega
    have HB := Lib.hid (show Below w.heap.size w w1 from ((Below.refl _ w).alloc (Nat.le_refl _) _).trans (hb.mono (by simp)))
    clear kc hb
    go_wp2_with fail
    all_goals first
      | (exfalso; omega)
      | (go_ret
         exact ⟨rfl, by have hb0 := HB.out; go_grown; try exact hb0⟩)
  · obtain rfl : i = 0 := by omega
    obtain rfl : t = ⟨#[]⟩ := p3.resolve_left (by decide)
    obtain ⟨rfl, rfl⟩ : re = 0 ∧ im = 0 := p4.resolve_left (by decide)
    have p7 := p6 rfl
    go_enter Tryz.func109, Tryz.ntmps109
    go_wp2_with fail
    refine (HF.out _).mono ?_
    rintro e w1 ⟨rfl, hb⟩
    have kc := fun j => hb.cell (p := ⟨w.heap.size, j, none⟩) (by simp)
    have x0 := kc 0
    have x1 := kc 1
    have x2 := kc 2
    have x3 := kc 3
    have x4 := kc 4
    simp at x0 x1 x2 x3 x4
    have hsz : w.heap.size < w1.heap.size := by have := hb.size; simp at this; omega
    have HB := Lib.hid (show Below w.heap.size w w1 from ((Below.refl _ w).alloc (Nat.le_refl _) _).trans (hb.mono (by simp)))
    clear kc hb
    go_wp2_with fail
    all_goals first
      | (exfalso; omega)
      | (go_ret
         exact ⟨rfl, by have hb0 := HB.out; go_grown; try exact hb0⟩)
end Go.Proofs.YtaeophaecclnbaaGreatDoor
namespace Go.Proofs.YtaeophaecclnbaaGreatDoor
open Go.RowKit Go.Shelf

theorem nodes_any (A : Option Addr) (n c : Nat) (w : World) : Calls Tryz.prog 108 #[.slice A n c] w (Ret (.func (.func 149) #[] #[.pointer (some ⟨w.heap.size, 0, none⟩)]) (w.alloc (.cells #[.slice A n c] 23))) := by
  go_enter Tryz.func108, Tryz.ntmps108
  go_wp2
  go_ret
  exact ⟨rfl, rfl⟩
theorem openAdd_le (x : Node) : 0 ≤ openAdd x ∧ openAdd x ≤ 1025 := by
  unfold openAdd
  split <;> omega
theorem openTo_le (v : List Node) : ∀ k : Nat, -(k : Int) ≤ openTo v k ∧ openTo v k ≤ 1 + 1025 * (k : Int)
  | 0 => by
    unfold openTo
    omega
  | k + 1 => by
    have h := openTo_le v k
    have a := openAdd_le (atN v k)
    unfold openTo
    omega
attribute [local go_sem] Oper.semAt_some
set_option maxRecDepth 100000 in
set_option maxHeartbeats 2000000 in
/-- The nodes of a value. -/
theorem nodesN_in (n : Nat) (hn : 1 ≤ n) (l Bs n₀ b off c : Nat) (v : List Node) (hv : v.length ≤ 1024) (hb : b < n₀) (J Jx : List Nat → World → Prop) (W : World) (hJ : AbidesFrom W.heap.size J)
    (hY : ∀ k W1, k < v.length → J (List.range k) W1 → YieldAt Fence.wide (n - 1) Tryz.prog l #[(atN v k).val, .int .i64 (openTo v (k + 1))] W1 fun e W' =>
      (e = .returned (.bool true) ∧ J (List.range (k + 1)) W' ∧ Below n₀ W1 W') ∨ (e = .returned (.bool false) ∧ Jx (List.range (k + 1)) W'))
    (hn0 : n₀ ≤ W.heap.size) (hBs : W.cell? ⟨Bs, 0, none⟩ = some (.slice (some ⟨b, off, none⟩) v.length c)) (hc : ∀ k, k < v.length → NodeAt W b (off + k * 5) (atN v k)) (h0 : J [] W) :
    CallsIn Fence.wide n Tryz.prog 149 #[.func (.yield l) #[] #[], .pointer (some ⟨Bs, 0, none⟩)] W fun e W' => (∃ v, e = .returned v) ∧
      (J (List.range v.length) W' ∨ ∃ k, k < v.length ∧ Jx (List.range (k + 1)) W') := by
  have hsc := store_cx
  have HC := Lib.hid hc
  have HY := Lib.hid hY
  clear hc hY
  refine callsIn_of_wp Tryz.func149 rfl trivial ?_ rfl
  simp only [Tryz.ntmps149, List.size_toArray, List.length_cons, List.length_nil, Nat.reduceAdd, Nat.reduceSub, Array.replicate_succ, Array.replicate_zero, List.push_toArray, List.append_toArray, List.nil_append, List.cons_append]
  gi_wp2
  gi_loopw [3, 8] (fun o p wr => ∃ k : Nat, o = .int .i64 (openTo v k) ∧ p = .int .i64 k ∧ k ≤ v.length ∧ J (List.range k) wr ∧ Below n₀ W wr ∧ W.heap.size ≤ wr.heap.size) (fun _ p _ => v.length - (intOf p).toNat)
  case atStart => exact ⟨0, rfl, rfl, Nat.zero_le _, h0, Below.refl _ _, Nat.le_refl _⟩
  case round =>
    obtain ⟨k, rfl, rfl, hk, hJs, hnx, hsz⟩ := hrel
    by_cases hlt : k < v.length
    · have hN := HC.out k hlt
      have d0 := (hnx.cell (p := ⟨b, off + k * 5, none⟩) hb).trans hN.c0
      have d1 := (hnx.cell (p := ⟨b, off + k * 5 + 1, none⟩) hb).trans hN.c1
      have d2 := (hnx.cell (p := ⟨b, off + k * 5 + 2, none⟩) hb).trans hN.c2
      have d3 := (hnx.cell (p := ⟨b, off + k * 5 + 3, none⟩) hb).trans hN.c3
      have d4 := (hnx.cell (p := ⟨b, off + k * 5 + 4, none⟩) hb).trans hN.c4
      have hoL := openTo_le v k
      have hoN : openTo v (k + 1) = openTo v k - 1 + openAdd (atN v k) := rfl
      have hJa := fun o => hJ (List.range k) wr (wr.alloc o) none hJs (World.grownBy_alloc wr o none) (fun r e => by cases e)
      have hy0 := HY.out k _ hlt (hJa (.cells #[.int .u8 ((atN v k).kind : Int), .int .i64 (atN v k).kids, .int .i64 (atN v k).int, .string (atN v k).text, .complex .f64 (atN v k).re (atN v k).im] 103))
      rw [hoN] at hy0
      clear hN
      unfold Node.val at hy0
      unfold openAdd at hy0
      generalize atN v k = x at *
      generalize openTo v k = o at *
      obtain ⟨kd, ks, it, tx, re, im⟩ := x
      dsimp only at *
      by_cases h5 : kd = 5 ∧ 0 < ks
      · have EO := Lib.hid (show openTo v (k + 1) = o - 1 + min ks 1025 by rw [hoN]; unfold openAdd; rw [if_pos h5])
        rw [if_pos h5] at hy0
        have hk5 : ((kd : Int) == 5) = true := by rw [h5.1]; rfl
        have hpos := h5.2
        clear h5
        clear hoN
        obtain ⟨fn, tmps, assign, body, hy, hR⟩ := hy0
        have HNX := Lib.hid (fun o => hnx.alloc (by omega : n₀ ≤ wr.heap.size) o)
        gi_wp2
        refine hR.mono ?_
        rintro e W3 (⟨rfl, hJ3, hk3⟩ | ⟨rfl, hJx3⟩)
        · have SZ := Lib.hid (show W.heap.size ≤ W3.heap.size by have := hk3.size; simp at this; omega)
          gi_wp2
          go_roundw
          case rel => exact ⟨k + 1, by rw [EO.out], by go_num, by omega, hJ3, (HNX.out _).trans hk3, SZ.out⟩
          case measure => simp [intOf]; omega
        · gi_wp2
          refine bodyPost_ret (results_none rfl _ _ _) rfl ?_
          exact ⟨⟨_, rfl⟩, .inr ⟨k, hlt, hJx3⟩⟩
      · have EO := Lib.hid (show openTo v (k + 1) = o - 1 by rw [hoN]; unfold openAdd; rw [if_neg h5, Int.add_zero])
        rw [if_neg h5, Int.add_zero] at hy0
        clear hoN
        by_cases h5k : kd = 5
        · have hk5 : ((kd : Int) == 5) = true := by rw [h5k]; rfl
          have hks : ¬ 0 < ks := fun c => h5 ⟨h5k, c⟩
          clear h5 h5k
          obtain ⟨fn, tmps, assign, body, hy, hR⟩ := hy0
          have HNX := Lib.hid (fun o => hnx.alloc (by omega : n₀ ≤ wr.heap.size) o)
          gi_wp2
          refine hR.mono ?_
          rintro e W3 (⟨rfl, hJ3, hk3⟩ | ⟨rfl, hJx3⟩)
          · have SZ := Lib.hid (show W.heap.size ≤ W3.heap.size by have := hk3.size; simp at this; omega)
            gi_wp2
            go_roundw
            case rel => exact ⟨k + 1, by rw [EO.out], by go_num, by omega, hJ3, (HNX.out _).trans hk3, SZ.out⟩
            case measure => simp [intOf]; omega
          · gi_wp2
            refine bodyPost_ret (results_none rfl _ _ _) rfl ?_
            exact ⟨⟨_, rfl⟩, .inr ⟨k, hlt, hJx3⟩⟩
        · have hk5 : ((kd : Int) == 5) = false := beq_eq_false_iff_ne.2 (by omega)
          clear h5
          obtain ⟨fn, tmps, assign, body, hy, hR⟩ := hy0
          have HNX := Lib.hid (fun o => hnx.alloc (by omega : n₀ ≤ wr.heap.size) o)
          gi_wp2
          refine hR.mono ?_
          rintro e W3 (⟨rfl, hJ3, hk3⟩ | ⟨rfl, hJx3⟩)
          · have SZ := Lib.hid (show W.heap.size ≤ W3.heap.size by have := hk3.size; simp at this; omega)
            gi_wp2
            go_roundw
            case rel => exact ⟨k + 1, by rw [EO.out], by go_num, by omega, hJ3, (HNX.out _).trans hk3, SZ.out⟩
            case measure => simp [intOf]; omega
          · gi_wp2
            refine bodyPost_ret (results_none rfl _ _ _) rfl ?_
            exact ⟨⟨_, rfl⟩, .inr ⟨k, hlt, hJx3⟩⟩
    · obtain rfl : k = v.length := by omega
      gi_wp2
      go_end0
      exact ⟨⟨_, rfl⟩, .inl hJs⟩
end Go.Proofs.YtaeophaecclnbaaGreatDoor
namespace Go.Proofs.YtaeophaecclnbaaGreatDoor
open Go.RowKit Go.Shelf

theorem stopsN (n : Nat) (hn : 1 ≤ n) (Bs n₀ b off c : Nat) (v : List Node) (hv : v.length ≤ 1024) (w : World) (hBs : Bs < w.heap.size) (hn₀ : n₀ ≤ w.heap.size) (hcell : w.cell? ⟨Bs, 0, none⟩ = some (.slice (some ⟨b, off, none⟩) v.length c)) (hb : b < n₀) (hc : ∀ k, k < v.length → NodeAt w b (off + k * 5) (atN v k)) :
    SeqStopsK Fence.wide n Tryz.prog 149 #[.pointer (some ⟨Bs, 0, none⟩)] (fun k : Nat => #[(atN v k).val, .int .i64 (openTo v (k + 1))]) (Below n₀) (fun ys => ys = List.range v.length) (fun pre => ∃ k, k < v.length ∧ pre = List.range (k + 1)) v.length w := fun l J Jx W hW hJ _ hY h0 => by
  have hsz := hW.size
  refine (nodesN_in n hn l Bs n₀ b off c v hv hb J Jx W hJ (fun k W1 hk hj => ?_) (by omega) ((hW.cell (p := ⟨Bs, 0, none⟩) hBs).trans hcell) (fun k hk => (hc k hk).below hW (by omega)) h0).mono ?_
  · have h := hY (List.range k) k W1 hj (by simpa using hk)
    rw [List.range_succ]
    exact h
  · rintro e W' ⟨he, h | ⟨k, hk, h⟩⟩
    · exact ⟨he, .inl ⟨_, rfl, h⟩⟩
    · exact ⟨he, .inr ⟨_, ⟨k, hk, rfl⟩, h⟩⟩
theorem node_new (W : World) (k : Nat) (hk : W.heap.size = k) (x : Node) (t : TypeId) : NodeAt (W.alloc (.cells #[.int .u8 (x.kind : Int), .int .i64 x.kids, .int .i64 x.int, .string x.text, .complex .f64 x.re x.im] t)) k 0 x := by
  subst hk
  exact ⟨by rw [World.cell?_alloc_new]; rfl, by rw [World.cell?_alloc_new]; rfl, by rw [World.cell?_alloc_new]; rfl, by rw [World.cell?_alloc_new]; rfl, by rw [World.cell?_alloc_new]; rfl⟩
theorem node_own (B b : Nat) (x : Node) : OwnFrom B (fun (_ : Unit) W => NodeAt W b 0 x) := fun _ _ _ _ hs hg hr =>
  ⟨cell_kept hs.c0 hg (fun r e => (hr r e).2), cell_kept hs.c1 hg (fun r e => (hr r e).2), cell_kept hs.c2 hg (fun r e => (hr r e).2), cell_kept hs.c3 hg (fun r e => (hr r e).2), cell_kept hs.c4 hg (fun r e => (hr r e).2)⟩
/-- How much the nodes at such places are. -/
def meaL (v : List Node) (pre : List Nat) : Nat := (pre.map fun k => 1 + (atN v k).text.size).sum
theorem meaL_snoc (v : List Node) (pre : List Nat) (k : Nat) : meaL v (pre ++ [k]) = meaL v pre + (1 + (atN v k).text.size) := by simp [meaL]
theorem meaL_range (v : List Node) : ∀ k, meaL v (List.range k) = measTo v k
  | 0 => rfl
  | k + 1 => by rw [List.range_succ, meaL_snoc, meaL_range v k]; rfl
theorem meaL_le {v : List Node} (h : ∀ k, (atN v k).text.size ≤ 4096) (pre : List Nat) : meaL v pre ≤ 4097 * pre.length := by
  induction pre with
  | nil => exact Nat.le_refl _
  | cons k pre ih =>
    have e : meaL v (k :: pre) = (1 + (atN v k).text.size) + meaL v pre := by simp [meaL]
    have := h k
    rw [e, List.length_cons]
    omega
attribute [local go_sem] Oper.semAt_some
set_option maxRecDepth 100000 in
set_option maxHeartbeats 2000000 in
theorem measureN_any {b off c : Nat} {v : List Node} {w : World} (hv : v.length ≤ 1024) (ht : ∀ k, (atN v k).text.size ≤ 4096) (hbl : b < w.heap.size) (hc : ∀ k, k < v.length → NodeAt w b (off + k * 5) (atN v k)) : Calls Tryz.prog 110 #[.slice (some ⟨b, off, none⟩) v.length c] w (RetB (.int .i64 (meas v : Int)) w) := by
  have hsc := store_cx
  refine (callsIn_wide (n := 6)).1 ?_
  refine callsIn_of_wp_marks Tryz.func110 rfl trivial ?_ rfl
  simp only [Tryz.ntmps110, List.size_toArray, List.length_cons, List.length_nil, Nat.reduceAdd, Nat.reduceSub, Array.replicate_succ, Array.replicate_zero, List.push_toArray, List.append_toArray, List.nil_append, List.cons_append]
  gi_wp2_with fail
  refine ⟨trivial, ?_⟩
  refine (callsIn_wide.2 (nodes_any _ _ _ _)).mono ?_
  rintro e w' ⟨rfl, rfl⟩
  gi_wp2_with fail
  have bS := (Boxed.new w 3 (.int .i64 0)).alloc (.cells #[.slice (some ⟨b, off, none⟩) v.length c] 23)
  have bN := Boxed.new (w.alloc (.cells #[.int .i64 0] 3)) 23 (.slice (some ⟨b, off, none⟩) v.length c)
  rw [World.size_alloc] at bN
  have hB0 : Below w.heap.size w ((w.alloc (.cells #[.int .i64 0] 3)).alloc (.cells #[.slice (some ⟨b, off, none⟩) v.length c] 23)) := ((Below.refl _ w).alloc (Nat.le_refl _) _).alloc (by simp) _
  have hsz : ((w.alloc (.cells #[.int .i64 0] 3)).alloc (.cells #[.slice (some ⟨b, off, none⟩) v.length c] 23)).heap.size = w.heap.size + 2 := by simp
  generalize (w.alloc (.cells #[.int .i64 0] 3)).alloc (.cells #[.slice (some ⟨b, off, none⟩) v.length c] 23) = W0 at *
  refine wpIn_rangeFunc_ownH (F := Fence.wide) (n := 6) (P := Tryz.prog) rfl (by omega) (gf := 149) (lb := #[.pointer (some ⟨w.heap.size + 1, 0, none⟩)]) rfl trivial (enters_of Tryz.func149 (by kernel_rfl) rfl)
    (stopsN 5 (by omega) (w.heap.size + 1) w.heap.size b off c v hv W0 (by omega) (by omega) bN.cell hbl (fun k hk => (hc k hk).below hB0 hbl)) belowK_t (belowK_b (by omega)) (Below.refl _ _) (fun _ => rfl)
    (fun pre W => Boxed W w.heap.size 3 (.int .i64 (meaL v pre : Int)) ∧ Below w.heap.size w W)
    (fun _ _ _ => False)
    (OwnFrom.and (Own.from (boxed_own _ _ _) _) (ownFrom_below (Nat.le_refl _) (by omega)))
    (fun _ _ _ _ _ hs _ _ => hs)
    ⟨bS, hB0⟩
    (fun k a' W => ∃ Bx, w.heap.size < Bx ∧ NodeAt W Bx 0 (atN v k) ∧ a' = { tmps := #[.slice (some ⟨b, off, none⟩) v.length c, undef, .int .i64 0, .pointer (some ⟨w.heap.size, 0, none⟩), .pointer (some ⟨Bx, 0, none⟩), .slice (some ⟨b, off, none⟩) v.length c, .func (.func 149) #[] #[.pointer (some ⟨w.heap.size + 1, 0, none⟩)], (atN v k).val, .int .i64 (openTo v (k + 1)), undef, undef, undef, undef, undef, undef, undef], defers := [] })
    (fun k a' _ X Y row hs hg hr => by obtain ⟨Bx, h1, h2, h3⟩ := hs; exact ⟨Bx, h1, node_own _ Bx (atN v k) () X Y row h2 hg hr, h3⟩)
    ?assign ?body ?done ?stop
  case assign =>
    rintro l pre k W K ⟨bS1, hB1⟩ hK
    generalize atN v k = x at *
    obtain ⟨kd, ks, it, tx, re, im⟩ := x
    unfold Node.val
    gi_wp2
    exact hK _ _ ((KeepsOthers.alloc _ _).from _) ((Below.refl _ W).alloc hB1.size _) ⟨bS1.alloc _, hB1.alloc hB1.size _⟩ ⟨W.heap.size, bS1.lt, node_new W W.heap.size rfl ⟨kd, ks, it, tx, re, im⟩ _, rfl⟩
  case body =>
    rintro l pre k a' W hl ⟨r, hr⟩ ⟨bS1, hB1⟩ ⟨Bx, hBx, hN, rfl⟩ hlt
    have cS := bS1.cell
    have fS := bS1.frozen
    have c3 := hN.c3
    rw [Nat.zero_add] at c3
    have hs := ht k
    have hl2 := meaL_le ht pre
    have bS2 : ∀ v, Boxed (W.setCell ⟨w.heap.size, 0, none⟩ v) w.heap.size 3 v := fun v => bS1.set _
    have E := Lib.hid (show (meaL v pre : Int) + (1 + ((atN v k).text.size : Int)) = (meaL v (pre ++ [k]) : Int) by rw [meaL_snoc]; omega)
    have w1 : IntKind.i64.wrap (1 + ((atN v k).text.size : Int)) = 1 + ((atN v k).text.size : Int) := IntWalk.i64_in _ (by omega)
    have w2 : IntKind.i64.wrap ((meaL v pre : Int) + (1 + ((atN v k).text.size : Int))) = (meaL v pre : Int) + (1 + ((atN v k).text.size : Int)) := IntWalk.i64_in _ (by omega)
    generalize (atN v k).val = xv at *
    generalize (atN v k).text = tx at *
    generalize meaL v pre = mm at *
    gi_wp2
    exact ⟨(KeepsOthers.setCell _ _ _).from _, (Below.refl w.heap.size W).setCell (p := ⟨w.heap.size, 0, none⟩) (Nat.le_refl _) _, by rw [← E.out]; exact bS2 _, hB1.setCell (p := ⟨w.heap.size, 0, none⟩) (Nat.le_refl _) _⟩
  case done =>
    rintro D ys W hD rfl ⟨bS1, hB1⟩ hK
    have cS := bS1.cell
    rw [meaL_range] at cS
    have cS : W.cell? ⟨w.heap.size, 0, none⟩ = some (Value.int .i64 (meas v : Int)) := cS
    gi_wp2
    refine ⟨by simp, .inl ⟨_, _, rfl, run_takeDeferred hK, ?_⟩⟩
    exact ⟨_, results_tmp rfl _ _ _, rfl, hB1.trans (belowK_b (w := w) (Nat.le_refl _) W D _ _ (by omega) hK rfl rfl)⟩
  case stop =>
    rintro D c pre W _ _ h _
    exact h.elim
end Go.Proofs.YtaeophaecclnbaaGreatDoor
namespace Go.Proofs.YtaeophaecclnbaaGreatDoor
open Go.RowKit

theorem atN_out {v : List Node} {k : Nat} (h : ¬ k < v.length) : atN v k = zN := by
  unfold atN
  rw [List.getD_eq_getElem?_getD, List.getElem?_eq_none (by omega)]
  rfl
theorem measTo_at (v : List Node) : ∀ n k : Nat, k < n → (atN v k).text.size ≤ measTo v n
  | 0, _, h => absurd h (by omega)
  | n + 1, k, h => by
    show _ ≤ measTo v n + (1 + (atN v n).text.size)
    by_cases hk : k = n
    · subst hk; omega
    · have := measTo_at v n k (by omega)
      omega
theorem Right.text {v : List Node} (h : Right v) (k : Nat) : (atN v k).text.size ≤ 4096 := by
  by_cases hk : k < v.length
  · exact Nat.le_trans (measTo_at v v.length k hk) h.meas
  · rw [atN_out hk]; exact Nat.zero_le _
theorem right_zN : rightN zN = true := by kernel_rfl
theorem Right.nodeAny {v : List Node} (h : Right v) (k : Nat) : rightN (atN v k) = true := by
  by_cases hk : k < v.length
  · have hb := h.shape k hk
    unfold badN at hb
    cases hr : rightN (atN v k) with
    | true => rfl
    | false => rw [hr] at hb; exact absurd hb (by simp)
  · rw [atN_out hk]; exact right_zN
theorem OkV.any {v : List Node} (h : OkV v) (k : Nat) : OkNode (atN v k) := by
  by_cases hk : k < v.length
  · exact h.at hk
  · rw [atN_out hk]; exact okN_zN
/-- A right value goes on until its end. -/
theorem Right.on {v : List Node} (h : Right v) {k : Nat} (hk : k + 1 < v.length) : openTo v (k + 1) ≠ 0 := fun c => by
  have hb := h.shape k (by omega)
  unfold badN at hb
  rw [decide_eq_true c, decide_eq_true hk] at hb
  simp at hb
/-- The last place that was handed out. -/
def lastL (v : List Node) (pre : List Nat) : Int := match pre.getLast? with
  | some k => openTo v (k + 1)
  | none => 1
theorem lastL_snoc (v : List Node) (pre : List Nat) (k : Nat) : lastL v (pre ++ [k]) = openTo v (k + 1) := by
  unfold lastL
  rw [List.getLast?_append]
  rfl
theorem lastL_range (v : List Node) : ∀ k, lastL v (List.range k) = openTo v k
  | 0 => rfl
  | k + 1 => by rw [List.range_succ, lastL_snoc]
/-- Where the rounds stop, if ever: nowhere. -/
theorem Right.stop {v : List Node} (h : Right v) {pre : List Nat} (hp : ∃ k, k < v.length ∧ pre = List.range (k + 1)) (h0 : lastL v pre = 0) (hl : pre.length < v.length) : False := by
  obtain ⟨k, _, rfl⟩ := hp
  rw [lastL_range] at h0
  rw [List.length_range] at hl
  exact h.on hl h0
end Go.Proofs.YtaeophaecclnbaaGreatDoor
namespace Go.Proofs.YtaeophaecclnbaaGreatDoor
open Go.RowKit Go.Shelf

attribute [local go_sem] Oper.semAt_some
theorem keeps_below {W W' : World} (h : Below W.heap.size W W') : KeepsOthers W W' := ⟨h.size, fun k _ hk _ => (h.block k (Array.getElem?_eq_some_iff.1 hk).1).trans hk⟩
theorem boxed_below {W W' : World} {B : Nat} {t : TypeId} {v : Value} (h : Boxed W B t v) (hb : Below W.heap.size W W') : Boxed W' B t v := (hb.block B h.lt).trans h
set_option maxRecDepth 100000 in
set_option maxHeartbeats 2000000 in
theorem checkN_any {b off c : Nat} {v : List Node} {w : World} (hR : Right v) (hok : OkV v) (hbl : b < w.heap.size) (hc : ∀ k, k < v.length → NodeAt w b (off + k * 5) (atN v k)) : Calls Tryz.prog 61 #[.slice (some ⟨b, off, none⟩) v.length c] w (RetB (.int .i64 0) w) := by
  have hsc := store_cx
  have hv := hR.len
  have hd0 : decide ((1024 : Int) < (v.length : Int)) = false := decide_eq_false (by omega)
  refine (callsIn_wide (n := 6)).1 ?_
  refine callsIn_of_wp_marks Tryz.func61 rfl trivial ?_ rfl
  simp only [Tryz.ntmps61, List.size_toArray, List.length_cons, List.length_nil, Nat.reduceAdd, Nat.reduceSub, Array.replicate_succ, Array.replicate_zero, List.push_toArray, List.append_toArray, List.nil_append, List.cons_append]
  gi_wp2_with fail
  refine ⟨trivial, ?_⟩
  refine (callsIn_wide.2 (nodes_any _ _ _ _)).mono ?_
  rintro e w' ⟨rfl, rfl⟩
  gi_wp2_with fail
  have bV := (((((Boxed.new w 23 (.slice (some ⟨b, off, none⟩) v.length c)).alloc (.cells #[.int .i64 0] 27)).alloc (.cells #[.int .i64 1] 3)).alloc (.cells #[.int .i64 0] 3)).alloc (.cells #[.slice (some ⟨b, off, none⟩) v.length c] 23))
  have bE := ((((Boxed.new (w.alloc (.cells #[.slice (some ⟨b, off, none⟩) v.length c] 23)) 27 (.int .i64 0)).alloc (.cells #[.int .i64 1] 3)).alloc (.cells #[.int .i64 0] 3)).alloc (.cells #[.slice (some ⟨b, off, none⟩) v.length c] 23))
  have bL := (((Boxed.new ((w.alloc (.cells #[.slice (some ⟨b, off, none⟩) v.length c] 23)).alloc (.cells #[.int .i64 0] 27)) 3 (.int .i64 1)).alloc (.cells #[.int .i64 0] 3)).alloc (.cells #[.slice (some ⟨b, off, none⟩) v.length c] 23))
  have bA := ((Boxed.new (((w.alloc (.cells #[.slice (some ⟨b, off, none⟩) v.length c] 23)).alloc (.cells #[.int .i64 0] 27)).alloc (.cells #[.int .i64 1] 3)) 3 (.int .i64 0)).alloc (.cells #[.slice (some ⟨b, off, none⟩) v.length c] 23))
  have bN := Boxed.new ((((w.alloc (.cells #[.slice (some ⟨b, off, none⟩) v.length c] 23)).alloc (.cells #[.int .i64 0] 27)).alloc (.cells #[.int .i64 1] 3)).alloc (.cells #[.int .i64 0] 3)) 23 (.slice (some ⟨b, off, none⟩) v.length c)
  simp only [World.size_alloc] at bE bL bA bN
  have hB0 : Below w.heap.size w (((((w.alloc (.cells #[.slice (some ⟨b, off, none⟩) v.length c] 23)).alloc (.cells #[.int .i64 0] 27)).alloc (.cells #[.int .i64 1] 3)).alloc (.cells #[.int .i64 0] 3)).alloc (.cells #[.slice (some ⟨b, off, none⟩) v.length c] 23)) := by go_grown
  have hsz : (((((w.alloc (.cells #[.slice (some ⟨b, off, none⟩) v.length c] 23)).alloc (.cells #[.int .i64 0] 27)).alloc (.cells #[.int .i64 1] 3)).alloc (.cells #[.int .i64 0] 3)).alloc (.cells #[.slice (some ⟨b, off, none⟩) v.length c] 23)).heap.size = w.heap.size + 5 := by simp
  generalize (((((w.alloc (.cells #[.slice (some ⟨b, off, none⟩) v.length c] 23)).alloc (.cells #[.int .i64 0] 27)).alloc (.cells #[.int .i64 1] 3)).alloc (.cells #[.int .i64 0] 3)).alloc (.cells #[.slice (some ⟨b, off, none⟩) v.length c] 23)) = W0 at *
  refine wpIn_rangeFunc_ownH (F := Fence.wide) (n := 6) (P := Tryz.prog) rfl (by omega) (gf := 149) (lb := #[.pointer (some ⟨w.heap.size + 1 + 1 + 1 + 1, 0, none⟩)]) rfl trivial (enters_of Tryz.func149 (by kernel_rfl) rfl)
    (stopsN 5 (by omega) (w.heap.size + 1 + 1 + 1 + 1) w.heap.size b off c v hv W0 (by omega) (by omega) bN.cell hbl (fun k hk => (hc k hk).below hB0 hbl)) belowK_t (belowK_b (by omega)) (Below.refl _ _) (fun _ => rfl)
    (fun pre W => ((Boxed W w.heap.size 23 (.slice (some ⟨b, off, none⟩) v.length c) ∧ Boxed W (w.heap.size + 1) 27 (.int .i64 0)) ∧ (Boxed W (w.heap.size + 1 + 1) 3 (.int .i64 (lastL v pre)) ∧ Boxed W (w.heap.size + 1 + 1 + 1) 3 (.int .i64 ((pre.length : Int))))) ∧ Below w.heap.size w W)
    (fun _ pre _ => lastL v pre = 0 ∧ pre.length < v.length)
    (OwnFrom.and (OwnFrom.and (OwnFrom.and (Own.from (boxed_own _ _ _) _) (Own.from (boxed_own _ _ _) _)) (OwnFrom.and (Own.from (boxed_own _ _ _) _) (Own.from (boxed_own _ _ _) _))) (ownFrom_below (Nat.le_refl _) (by omega)))
    (fun _ _ _ _ _ hs _ _ => hs)
    ⟨⟨⟨bV, bE⟩, bL, bA⟩, hB0⟩
    (fun k a' W => ∃ Bx, w.heap.size + 1 + 1 + 1 < Bx ∧ NodeAt W Bx 0 (atN v k) ∧ a' = { tmps := #[.slice (some ⟨b, off, none⟩) v.length c, .pointer (some ⟨w.heap.size, 0, none⟩), .pointer (some ⟨w.heap.size + 1, 0, none⟩), .pointer (some ⟨w.heap.size + 1 + 1, 0, none⟩), .pointer (some ⟨w.heap.size + 1 + 1 + 1, 0, none⟩), .pointer (some ⟨Bx, 0, none⟩), .int .i64 (openTo v (k + 1)), .slice (some ⟨b, off, none⟩) v.length c, .int .i64 (v.length : Int), .bool false, .slice (some ⟨b, off, none⟩) v.length c, .func (.func 149) #[] #[.pointer (some ⟨w.heap.size + 1 + 1 + 1 + 1, 0, none⟩)], (atN v k).val, .int .i64 (openTo v (k + 1)), undef, undef, undef, undef, undef, undef, undef, undef, undef, undef, undef, undef, undef, undef, undef, undef, undef, undef, undef, undef, undef], defers := [] })
    (fun k a' _ X Y row hs hg hr => by obtain ⟨Bx, h1, h2, h3⟩ := hs; exact ⟨Bx, h1, node_own _ Bx (atN v k) () X Y row h2 hg hr, h3⟩)
    ?assign ?body ?done ?stop
  case assign =>
    rintro l pre k W K ⟨⟨⟨bV1, bE1⟩, bL1, bA1⟩, hB1⟩ hK
    generalize atN v k = x at *
    obtain ⟨kd, ks, it, tx, re, im⟩ := x
    unfold Node.val
    gi_wp2
    exact hK _ _ ((KeepsOthers.alloc _ _).from _) ((Below.refl _ W).alloc hB1.size _) ⟨⟨⟨bV1.alloc _, bE1.alloc _⟩, bL1.alloc _, bA1.alloc _⟩, hB1.alloc hB1.size _⟩ ⟨W.heap.size, bA1.lt, node_new W W.heap.size rfl ⟨kd, ks, it, tx, re, im⟩ _, rfl⟩
  case body =>
    rintro l pre k a' W hl ⟨r, hr⟩ ⟨⟨⟨bV1, bE1⟩, bL1, bA1⟩, hB1⟩ ⟨Bx, hBx, hN, rfl⟩ hlt
    have h1' : 1 ≤ 6 - 1 - 1 := by omega
    have cA := bA1.cell
    have fA := bA1.frozen
    have fL := bL1.frozen
    obtain ⟨c0, c1, c2, c3, c4⟩ := hN
    rw [Nat.zero_add] at c1 c2 c3 c4
    have hRi := Lib.hid (rightn_any (hR.nodeAny k) (hok.any k))
    have EL := Lib.hid (lastL_snoc v pre k)
    unfold Node.val at hRi
    have w1 : IntKind.i64.wrap ((pre.length : Int) + 1) = (pre.length : Int) + 1 := IntWalk.i64_in _ (by omega)
    have EN := Lib.hid (show ((pre ++ [k]).length : Int) = (pre.length : Int) + 1 by simp)
    generalize openTo v (k + 1) = o at *
    generalize atN v k = x at *
    gi_wp2_with fail
    refine ⟨trivial, ?_⟩
    refine (CallsIn.inRound l (callsIn_wide.2 (hRi.out _))).mono ?_
    rintro e W2 ⟨rfl, hb2⟩
    have kp := Lib.hid (((KeepsOthers.setCell W ⟨w.heap.size + 1 + 1 + 1, 0, none⟩ (.int .i64 ((pre.length : Int) + 1))).trans (keeps_below hb2)))
    have bA2 := boxed_below (bA1.set (.int .i64 ((pre.length : Int) + 1))) hb2
    have bV2 := boxed_below (bV1.other (by omega) (.int .i64 ((pre.length : Int) + 1)) : Boxed (W.setCell ⟨w.heap.size + 1 + 1 + 1, 0, none⟩ (.int .i64 ((pre.length : Int) + 1))) _ _ _) hb2
    have bE2 := boxed_below (bE1.other (by omega) (.int .i64 ((pre.length : Int) + 1)) : Boxed (W.setCell ⟨w.heap.size + 1 + 1 + 1, 0, none⟩ (.int .i64 ((pre.length : Int) + 1))) _ _ _) hb2
    have bL2 := boxed_below (bL1.other (by omega) (.int .i64 ((pre.length : Int) + 1)) : Boxed (W.setCell ⟨w.heap.size + 1 + 1 + 1, 0, none⟩ (.int .i64 ((pre.length : Int) + 1))) _ _ _) hb2
    have BW := Lib.hid (((Below.refl w.heap.size W).setCell (p := ⟨w.heap.size + 1 + 1 + 1, 0, none⟩) (by simp; omega) (.int .i64 ((pre.length : Int) + 1))).trans (hb2.mono (by simp; exact hB1.size)))
    have cA2 := bA2.cell
    have cV2 := bV2.cell
    have fL2 := bL2.frozen
    have cL2 := bL2.cell
    have fE2 := bE2.frozen
    have cE2 := bE2.cell
    have BL3 := Lib.hid (bL2.set (.int .i64 o))
    have BA3 := Lib.hid (bA2.other (by omega) (.int .i64 o) : Boxed (W2.setCell ⟨w.heap.size + 1 + 1, 0, none⟩ (.int .i64 o)) _ _ _)
    have BV3 := Lib.hid (bV2.other (by omega) (.int .i64 o) : Boxed (W2.setCell ⟨w.heap.size + 1 + 1, 0, none⟩ (.int .i64 o)) _ _ _)
    have BE3 := Lib.hid (bE2.other (by omega) (.int .i64 o) : Boxed (W2.setCell ⟨w.heap.size + 1 + 1, 0, none⟩ (.int .i64 o)) _ _ _)
    have HB1 := Lib.hid hB1
    clear hb2 bA2 bV2 bE2 bL2 bA1 bV1 bE1 bL1 cA fA fL c0 c1 c2 c3 c4 hRi hr hB1
    have go : ∀ W3, W3 = W2.setCell ⟨w.heap.size + 1 + 1, 0, none⟩ (.int .i64 o) → KeepsFrom W0.heap.size W W3 ∧ Below w.heap.size W W3 ∧ ((Boxed W3 w.heap.size 23 (.slice (some ⟨b, off, none⟩) v.length c) ∧ Boxed W3 (w.heap.size + 1) 27 (.int .i64 0)) ∧ (Boxed W3 (w.heap.size + 1 + 1) 3 (.int .i64 (lastL v (pre ++ [k]))) ∧ Boxed W3 (w.heap.size + 1 + 1 + 1) 3 (.int .i64 (((pre ++ [k]).length : Int))))) ∧ Below w.heap.size w W3 := by
      rintro W3 rfl
      rw [EL.out, EN.out]
      exact ⟨(kp.out.trans (KeepsOthers.setCell _ _ _)).from _, BW.out.setCell (p := ⟨w.heap.size + 1 + 1, 0, none⟩) (by simp; omega) _, ⟨⟨BV3.out, BE3.out⟩, BL3.out, BA3.out⟩, (HB1.out.trans BW.out).setCell (p := ⟨w.heap.size + 1 + 1, 0, none⟩) (by simp; omega) _⟩
    have HGO := Lib.hid go
    clear go
    by_cases ho : o = 0
    · by_cases hl2 : pre.length + 1 < v.length
      · have HS := Lib.hid (show lastL v (pre ++ [k]) = 0 ∧ (pre ++ [k]).length < v.length from ⟨by rw [EL.out, ho], by simpa using hl2⟩)
        have hd1 : decide (((pre.length : Int) + 1) < (v.length : Int)) = true := decide_eq_true (by omega)
        subst ho
        gi_wp2_with fail
        exact ⟨(kp.out.trans (KeepsOthers.setCell _ _ _)).from _, HS.out⟩
      · have hd1 : decide (((pre.length : Int) + 1) < (v.length : Int)) = false := decide_eq_false (by omega)
        subst ho
        gi_wp2_with fail
        exact HGO.out _ rfl
    · have hd0 : (o == 0) = false := beq_eq_false_iff_ne.2 ho
      gi_wp2_with fail
      exact HGO.out _ rfl
  case done =>
    rintro D ys W hD rfl ⟨⟨⟨bV1, bE1⟩, bL1, bA1⟩, hB1⟩ hK
    rw [lastL_range, hR.ends] at bL1
    have cL := bL1.cell
    have cV := bV1.cell
    have HM := Lib.hid (measureN_any (c := c) hR.len hR.text (Nat.lt_of_lt_of_le hbl hB1.size) (fun k hk => (hc k hk).below hB1 hbl))
    gi_wp2_with fail
    refine ⟨trivial, ?_⟩
    refine (callsIn_wide.2 HM.out).mono ?_
    rintro e W2 ⟨rfl, hb2⟩
    have hs := hR.meas
    have hd : decide ((4096 : Int) < (meas v : Int)) = false := decide_eq_false (by omega)
    generalize meas v = ms at *
    have bE2 := boxed_below bE1 hb2
    have cE := bE2.cell
    have fE := bE2.frozen
    have hK2 : W2.heap[D]? = some (.deferred (some [])) := (hb2.block D (Array.getElem?_eq_some_iff.1 hK).1).trans hK
    have hB2 := Lib.hid (bthen hB1 hb2)
    have BE3 := Lib.hid (bE2.set (.int .i64 0))
    have HK3 := Lib.hid ((KeepsOthers.setCell W2 ⟨w.heap.size + 1, 0, none⟩ (.int .i64 0)).same D _ hK2 rfl)
    clear hb2 bV1 bE1 bL1 bA1 cL cV hB1 hK HM bE2
    gi_wp2_with fail
    refine ⟨by simp, .inl ⟨_, _, rfl, run_takeDeferred HK3.out, ?_⟩⟩
    have hcell := cell_kept BE3.out.cell (grownBy_putObj' _ D (.deferred none)) (fun r e => by cases e; exact ⟨_, HK3.out, rfl⟩)
    refine ⟨.int .i64 0, ?_, rfl, (hB2.out.setCell (p := ⟨w.heap.size + 1, 0, none⟩) (by simp) _).trans (belowK_b (w := w) (Nat.le_refl _) _ D _ _ (by omega) HK3.out rfl rfl)⟩
    simp [results, Tryz.results61, go_sem, hcell]
  case stop =>
    rintro D c pre W _ hp h _
    exact absurd (hR.stop hp h.1 h.2) id
end Go.Proofs.YtaeophaecclnbaaGreatDoor
namespace Go.Proofs.YtaeophaecclnbaaGreatDoor
open Go.RowKit

theorem openAdd_nn (x : Node) : 0 ≤ openAdd x := (openAdd_le x).1
theorem Right.more {v : List Node} (h : Right v) : ∀ k, k < v.length → 0 < openTo v k
  | 0, _ => by unfold openTo; decide
  | k + 1, hk => by
    have h1 := h.more k (by omega)
    have h2 := h.on hk
    have h3 := openAdd_nn (atN v k)
    have e : openTo v (k + 1) = openTo v k - 1 + openAdd (atN v k) := rfl
    omega
theorem openTo_drop (v : List Node) (k : Nat) : ∀ j : Nat, openTo v k - (j : Int) ≤ openTo v (k + j)
  | 0 => by simp
  | j + 1 => by
    have h1 := openTo_drop v k j
    have h3 := openAdd_nn (atN v (k + j))
    have e : openTo v (k + (j + 1)) = openTo v (k + j) - 1 + openAdd (atN v (k + j)) := rfl
    omega
/-- What a right value's node adds. -/
def kidsN (x : Node) : Int := if x.kind = 5 then x.kids else 0
theorem Right.add {v : List Node} (h : Right v) {k : Nat} (hk : k < v.length) : openAdd (atN v k) = kidsN (atN v k) ∧ 0 ≤ kidsN (atN v k) ∧ kidsN (atN v k) ≤ (v.length : Int) := by
  have h1 := h.more k hk
  have h2 := openTo_drop v (k + 1) (v.length - (k + 1))
  rw [show k + 1 + (v.length - (k + 1)) = v.length by omega, h.ends] at h2
  have e : openTo v (k + 1) = openTo v k - 1 + openAdd (atN v k) := rfl
  have hl := h.len
  have hp := right_parts (h.nodeAny k)
  have hc := hp.list
  unfold openAdd at e ⊢
  unfold kidsN
  by_cases h5 : (atN v k).kind = 5
  · have h6 := hc h5
    rw [if_pos h5]
    by_cases h7 : 0 < (atN v k).kids
    · rw [if_pos ⟨h5, h7⟩] at e ⊢
      omega
    · rw [if_neg (fun c => h7 c.2)]
      omega
  · rw [if_neg h5, if_neg (fun c => h5 c.1)]
    omega
theorem Right.step {v : List Node} (h : Right v) {k : Nat} (hk : k < v.length) : openTo v (k + 1) = openTo v k - 1 + kidsN (atN v k) := by
  rw [← (h.add hk).1]; rfl
theorem measTo_mono (v : List Node) {i j : Nat} (h : i ≤ j) : measTo v i ≤ measTo v j := by
  induction j with
  | zero => obtain rfl : i = 0 := by omega
            exact Nat.le_refl _
  | succ j ih =>
    by_cases e : i = j + 1
    · subst e; exact Nat.le_refl _
    · have := ih (by omega)
      show _ ≤ measTo v j + (1 + (atN v j).text.size)
      omega
end Go.Proofs.YtaeophaecclnbaaGreatDoor
