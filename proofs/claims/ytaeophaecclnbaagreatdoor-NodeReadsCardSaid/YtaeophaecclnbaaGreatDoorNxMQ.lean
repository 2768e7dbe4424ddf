/- Two questions that are the same: the statement's comparison, walked. -/
import Derived.Test.YtaeophaecclnbaaGreatDoorMgF
import Derived.Test.YtaeophaecclnbaaGreatDoorMgG
import Derived.Deep.RegionHeld3
namespace Go.Proofs.YtaeophaecclnbaaGreatDoor
open Go.RowKit

theorem part_any {x : Nat} (h : fin x = true) (w : World) : Calls Tryz.prog 48 #[.float .f64 x, .float .f64 x] w (Ret (.bool true) w) := by
  have o := order_self (num_of_fin h)
  go_enter Tryz.func48, Tryz.ntmps48
  go_wp2_with fail
  go_ret
  exact ⟨rfl, rfl⟩
theorem cx_eqd (d : Nat) (w : World) : (Op.equalIn (d + 1) 101 (.complex .f64 0 0) (.complex .f64 0 0)).run Tryz.prog w = .ok true w := by
  have h : Op.floatEq .f64 0 0 = true := by decide
  simp [Op.equalIn, run_underlying Tryz.underlying101, h]
theorem cx_eq (w : World) : (Op.equalIn 9999 101 (.complex .f64 0 0) (.complex .f64 0 0)).run Tryz.prog w = .ok true w := cx_eqd 9998 w
set_option maxRecDepth 100000 in
set_option maxHeartbeats 4000000 in
theorem alike_any {w : World} {A1 A2 : Option Addr} {c1 c2 : Nat} {v : List Node} (hR : v = [] ∨ Right v) (h1 : NodesIn w A1 v) (h2 : NodesIn w A2 v) :
    Calls Tryz.prog 23 #[.slice A1 v.length c1, .slice A2 v.length c2] w (RetB (.bool true) w) := by
  have hsc := store_cx
  have hcx := cx_eq
  have hv : v.length ≤ 1024 := by
    rcases hR with rfl | h
    · exact Nat.zero_le _
    · exact h.len
  have HR := Lib.hid (fun k => show rightN (atN v k) = true from by
    rcases hR with rfl | h
    · exact right_zN
    · exact h.nodeAny k)
  have o0 : (FloatKind.f64.format.order 0 0 == some .eq) = true := by decide
  have heq : ((v.length : Int) != (v.length : Int)) = false := by simp
  clear hR
  have H1 := Lib.hid h1
  have H2 := Lib.hid h2
  clear h1 h2
  go_enter Tryz.func23, Tryz.ntmps23
  go_wp2_with fail
  go_loopw [5] (fun i wr => ∃ k : Nat, i = .int .i64 k ∧ k ≤ v.length ∧ Below w.heap.size w wr) (fun i _ => v.length - (intOf i).toNat)
  case atStart => exact ⟨0, rfl, Nat.zero_le _, Below.refl _ _⟩
  case round =>
    obtain ⟨k, rfl, hk, hB⟩ := hrel
    have HB := Lib.hid hB
    clear hB
    by_cases hlt : k < v.length
    · obtain ⟨b1, o1, rfl, hl1, hc1⟩ := H1.out (by omega)
      obtain ⟨b2, o2, rfl, hl2, hc2⟩ := H2.out (by omega)
      have hz := HB.out.size
      have C1 := (hc1 k hlt).below HB.out hl1
      have C2 := (hc2 k hlt).below HB.out hl2
      obtain ⟨d0, d1, d2, d3, d4⟩ := C1
      obtain ⟨e0, e1, e2, e3, e4⟩ := C2
      have a1 : b1 < wr.heap.size := by omega
      have a2 : b2 < wr.heap.size := by omega
      have P := right_parts (HR.out k)
      have PR := Lib.hid (fun w => part_any (fine_fin P.fine).1 w)
      have PI := Lib.hid (fun w => part_any (fine_fin P.fine).2 w)
      clear P hc1 hc2
      generalize atN v k = x at *
      obtain ⟨kd, ks, it, tx, re, im⟩ := x
      dsimp only at *
      have q1 : (tx.toList == tx.toList) = true := beq_self_eq_true _
      have q2 : (it == it) = true := beq_self_eq_true _
      have q3 : (ks == ks) = true := beq_self_eq_true _
      have q4 : ((kd : Int) == (kd : Int)) = true := beq_self_eq_true _
      go_wp2_with fail
      refine (PR.out _).mono ?_
      rintro e w9 ⟨rfl, rfl⟩
      go_wp2_with fail
      refine (PI.out _).mono ?_
      rintro e w9 ⟨rfl, rfl⟩
      go_wp2_with fail
      go_roundw
      case rel => exact ⟨k + 1, by go_num, by omega, by have hb0 := HB.out; go_grown; try exact hb0⟩
      case measure => simp [intOf]; omega
    · obtain rfl : k = v.length := by omega
      go_wp2_with fail
      go_ret
      exact ⟨rfl, HB.out⟩
set_option maxRecDepth 100000 in
set_option maxHeartbeats 4000000 in
theorem events_any {w : World} {A1 A2 : Option Addr} {c1 c2 : Nat} {v : List Ev} (hR : ∀ e, e ∈ v → e.value = [] ∨ Right e.value) (hn : v.length ≤ 4096) (h1 : EvsIn w A1 v) (h2 : EvsIn w A2 v) :
    Calls Tryz.prog 24 #[.slice A1 v.length c1, .slice A2 v.length c2] w (RetB (.bool true) w) := by
  have heq : ((v.length : Int) != (v.length : Int)) = false := by simp
  have HR := Lib.hid (fun k (hk : k < v.length) => hR (atE v k) (by unfold atE; rw [List.getD_eq_getElem?_getD, List.getElem?_eq_getElem hk]; exact List.getElem_mem hk))
  clear hR
  have H1 := Lib.hid h1
  have H2 := Lib.hid h2
  clear h1 h2
  go_enter Tryz.func24, Tryz.ntmps24
  go_wp2_with fail
  go_loopw [5] (fun i wr => ∃ k : Nat, i = .int .i64 k ∧ k ≤ v.length ∧ Below w.heap.size w wr) (fun i _ => v.length - (intOf i).toNat)
  case atStart => exact ⟨0, rfl, Nat.zero_le _, Below.refl _ _⟩
  case round =>
    obtain ⟨k, rfl, hk, hB⟩ := hrel
    have HB := Lib.hid hB
    clear hB
    by_cases hlt : k < v.length
    · obtain ⟨b1, o1, rfl, hl1, hc1⟩ := H1.out (by omega)
      obtain ⟨b2, o2, rfl, hl2, hc2⟩ := H2.out (by omega)
      have hz := HB.out.size
      obtain ⟨d0, d1, d2, ⟨X1, x1, d3, n1⟩, d4⟩ := (hc1 k hlt).below HB.out hl1
      obtain ⟨e0, e1, e2, ⟨X2, x2, e3, n2⟩, e4⟩ := (hc2 k hlt).below HB.out hl2
      have AL := Lib.hid (fun w9 (hb : Below wr.heap.size wr w9) => alike_any (c1 := x1) (c2 := x2) (HR.out k hlt) (n1.keep hb) (n2.keep hb))
      clear n1 n2 hc1 hc2
      generalize atE v k = x at *
      obtain ⟨kd, id, nm, vv, it⟩ := x
      dsimp only at *
      have q1 : ((strB nm).toList == (strB nm).toList) = true := beq_self_eq_true _
      have q2 : (it == it) = true := beq_self_eq_true _
      have q3 : (id == id) = true := beq_self_eq_true _
      have q4 : ((kd : Int) == (kd : Int)) = true := beq_self_eq_true _
      generalize strB nm = nb at *
      generalize vv.length = ln at *
      have HS := Lib.hid (show ∀ w', Below wr.heap.size wr w' → w'.cell? ⟨b1, o1 + k * 5, none⟩ = some (.int .u8 (kd : Int)) ∧ w'.cell? ⟨b1, o1 + k * 5 + 1, none⟩ = some (.int .i64 id) ∧ w'.cell? ⟨b1, o1 + k * 5 + 2, none⟩ = some (.string nb) ∧ w'.cell? ⟨b1, o1 + k * 5 + 3, none⟩ = some (.slice X1 ln x1) ∧ w'.cell? ⟨b1, o1 + k * 5 + 4, none⟩ = some (.int .i64 it) ∧
          w'.cell? ⟨b2, o2 + k * 5, none⟩ = some (.int .u8 (kd : Int)) ∧ w'.cell? ⟨b2, o2 + k * 5 + 1, none⟩ = some (.int .i64 id) ∧ w'.cell? ⟨b2, o2 + k * 5 + 2, none⟩ = some (.string nb) ∧ w'.cell? ⟨b2, o2 + k * 5 + 3, none⟩ = some (.slice X2 ln x2) ∧ w'.cell? ⟨b2, o2 + k * 5 + 4, none⟩ = some (.int .i64 it) from fun w' hb => by
        have l1 : b1 < wr.heap.size := by omega
        have l2 : b2 < wr.heap.size := by omega
        exact ⟨(hb.cell (p := ⟨b1, _, none⟩) l1).trans d0, (hb.cell (p := ⟨b1, _, none⟩) l1).trans d1, (hb.cell (p := ⟨b1, _, none⟩) l1).trans d2, (hb.cell (p := ⟨b1, _, none⟩) l1).trans d3, (hb.cell (p := ⟨b1, _, none⟩) l1).trans d4,
          (hb.cell (p := ⟨b2, _, none⟩) l2).trans e0, (hb.cell (p := ⟨b2, _, none⟩) l2).trans e1, (hb.cell (p := ⟨b2, _, none⟩) l2).trans e2, (hb.cell (p := ⟨b2, _, none⟩) l2).trans e3, (hb.cell (p := ⟨b2, _, none⟩) l2).trans e4⟩)
      go_wp2_with fail
      go_region_held3 (fun w' => w'.cell? ⟨b1, o1 + k * 5, none⟩ = some (.int .u8 (kd : Int)) ∧ w'.cell? ⟨b1, o1 + k * 5 + 1, none⟩ = some (.int .i64 id) ∧ w'.cell? ⟨b1, o1 + k * 5 + 2, none⟩ = some (.string nb) ∧ w'.cell? ⟨b1, o1 + k * 5 + 3, none⟩ = some (.slice X1 ln x1) ∧ w'.cell? ⟨b1, o1 + k * 5 + 4, none⟩ = some (.int .i64 it) ∧ w'.cell? ⟨b2, o2 + k * 5, none⟩ = some (.int .u8 (kd : Int)) ∧ w'.cell? ⟨b2, o2 + k * 5 + 1, none⟩ = some (.int .i64 id) ∧ w'.cell? ⟨b2, o2 + k * 5 + 2, none⟩ = some (.string nb) ∧ w'.cell? ⟨b2, o2 + k * 5 + 3, none⟩ = some (.slice X2 ln x2) ∧ w'.cell? ⟨b2, o2 + k * 5 + 4, none⟩ = some (.int .i64 it)) (first | exact HS.out _ (Below.refl _ _).drew | exact HS.out _ (bthen (Below.refl _ _).drew (by assumption))) (first | (go_at_call 23; refine (AL.out _ (Below.refl _ _).drew).mono ?_; rintro e w9 ⟨rfl, hb⟩))
      have HB9 := Lib.hid (show Below w.heap.size w w9 from bthen (bthen HB.out (Below.refl _ _).drew) hb)
      clear hb HS
      go_wp2_with fail
      go_roundw
      case rel => exact ⟨k + 1, by go_num, by omega, HB9.out⟩
      case measure => simp [intOf]; omega
    · obtain rfl : k = v.length := by omega
      go_wp2_with fail
      go_ret
      exact ⟨rfl, HB.out⟩
set_option maxRecDepth 100000 in
set_option maxHeartbeats 4000000 in
theorem sameask_any {w : World} {x : Ask} {A1 A2 B1 B2 : Option Addr} {a1 a2 b1 b2 : Nat} (hv : x.value = [] ∨ Right x.value) (he : ∀ e, e ∈ x.events → OkEv e) (hn : x.events.length ≤ 4096) (h1 : NodesIn w A1 x.value) (h2 : EvsIn w A2 x.events) (h3 : NodesIn w B1 x.value) (h4 : EvsIn w B2 x.events) :
    Calls Tryz.prog 6 #[askV x A1 a1 A2 a2, askV x B1 b1 B2 b2] w (RetB (.bool true) w) := by
  have AL := Lib.hid (fun w9 (hb : Below w.heap.size w w9) => alike_any (c1 := a1) (c2 := b1) hv (h1.keep hb) (h3.keep hb))
  have EL := Lib.hid (fun w9 (hb : Below w.heap.size w w9) => events_any (c1 := a2) (c2 := b2) (fun e h => (he e h).right) hn (h2.keep hb) (h4.keep hb))
  clear hv he h1 h2 h3 h4
  unfold askV
  obtain ⟨cl, sq, op, id, nm, tx, v, it, tk, ev⟩ := x
  dsimp only at *
  have q1 : ((strB cl).toList == (strB cl).toList) = true := beq_self_eq_true _
  have q2 : ((strB id).toList == (strB id).toList) = true := beq_self_eq_true _
  have q3 : ((strB nm).toList == (strB nm).toList) = true := beq_self_eq_true _
  have q4 : ((strB tx).toList == (strB tx).toList) = true := beq_self_eq_true _
  have q5 : (it == it) = true := beq_self_eq_true _
  have q6 : (tk == tk) = true := beq_self_eq_true _
  have q7 : (sq == sq) = true := beq_self_eq_true _
  have q8 : ((op : Int) == (op : Int)) = true := beq_self_eq_true _
  generalize strB cl = s1 at *
  generalize strB id = s2 at *
  generalize strB nm = s3 at *
  generalize strB tx = s4 at *
  generalize v.length = vl at *
  generalize ev.length = el at *
  go_enter Tryz.func6, Tryz.ntmps6
  go_wp2_with fail
  refine (AL.out _ (by go_grown)).mono ?_
  rintro e w9 ⟨rfl, hb⟩
  have HB := Lib.hid (show Below w.heap.size w w9 from bthen (((Below.refl _ w).alloc (Nat.le_refl _) _).alloc (by simp) _) hb)
  have k1 := hb.cell (p := ⟨w.heap.size, 9, none⟩) (by simp <;> omega)
  have k2 := hb.cell (p := ⟨w.heap.size + 1, 9, none⟩) (by simp <;> omega)
  simp at k1 k2
  clear hb
  go_wp2_with fail
  refine (EL.out _ HB.out).mono ?_
  rintro e w10 ⟨rfl, hb⟩
  have HB2 := Lib.hid (bthen HB.out hb)
  go_wp2_with fail
  go_ret
  exact ⟨rfl, HB2.out⟩
end Go.Proofs.YtaeophaecclnbaaGreatDoor
