/- Going through a place, walked, a kind of instruction at a time. Printed by a program. -/
import Derived.Test.YtjfdokoigkdciaaLookA
import Derived.Test.YtjfdokoigkdciaaInstrK
namespace Go.Proofs.Ytjfdokoigkdciaa
open Go.RowKit Go.Maps

/-- Both places. -/
def bothR (R : List Int × Bool) (p : Nat) (nxt : Int) : List Int × Bool := if R.2 = true then meetS R.1 (p + 1) nxt else (R.1, false)
/-- An instruction of the code, as it lies in the world. -/
def InsAt (w : World) (b off p : Nat) (op : Nat) (a int : Int) (text : ByteArray) : Prop :=
  w.cell? ⟨b, off + p * 4, none⟩ = some (.int .u8 (op : Int)) ∧ w.cell? ⟨b, off + p * 4 + 1, none⟩ = some (.int .i64 a) ∧ w.cell? ⟨b, off + p * 4 + 2, none⟩ = some (.int .i64 int) ∧ w.cell? ⟨b, off + p * 4 + 3, none⟩ = some (.string text)
set_option maxRecDepth 100000 in
set_option maxHeartbeats 2000000 in
theorem thr_ends {w0 w : World} {x : Fx} {d : List Int} {g : List Bool} {m : Nat} {K : Nat → Prop} (h : St w0 w x d g m K) (hn : (x.n : Int) ≤ 8192) (b off p : Nat) (hp : p < x.n) (hA' : x.A = some ⟨b, off, none⟩) (a int : Int) (text : ByteArray) (op : Nat) (hop : op < 256) (he : endsK op = true) (hmany : manyK op = false) (hc : InsAt w b off p op a int text) (EQ : throughS (⟨op, a, int, text.data.toList⟩ : Ins) d p = (d, dAt d p == takesK op)) :
    Calls Try.prog 38 #[.pointer (some ⟨x.wb, 0, none⟩), .int .i64 p, .int .i64 (dAt d p)] w (MPost (throughS (⟨op, a, int, text.data.toList⟩ : Ins) d p).2 w0 w x (throughS (⟨op, a, int, text.data.toList⟩ : Ins) d p).1 g (m + 2) K) := by
  rw [EQ]
  clear EQ
  have hS := Lib.hid h
  have hlt := Lib.hid (fun k => h.lt (k := k))
  obtain ⟨k0, k1, k2, dl, dcell, wlt, dlt⟩ := h.cells
  clear h k1 k2 dcell dl
  obtain ⟨A, n, cc, wb, db, dc, base, sb, bm⟩ := x
  simp only at k0 wlt hp hn hA' 
  subst hA'
  skip
  unfold InsAt at hc
  obtain ⟨q0, q1, q2, q3⟩ := hc
  have ht0 := takesK_nn op
  have hl0 := leaveK_01 op
  have EK := Lib.hid (show kindV op = .agg #[.string (wordK op), .int .u8 (aB op), .bool (numK op), .int .u8 (tB op), .int .i64 (takesK op), .int .i64 (leaveK op), .bool false, .bool true] from by unfold kindV; rw [he, hmany])
  clear he hmany
  generalize dAt d p = dp at *
  go_enter Try.func38, Try.ntmps38
  go_wp2_with fail
  refine (kind_any op hop _).mono ?_
  rintro e w1 ⟨rfl, h1⟩
  rw [EK.out]
  have c1 := (bcell h1).1
  have c2 := (bcell h1).2
  have s1 : w.heap.size < w1.heap.size := szlt h1 (by simp)
  have HB := Lib.hid (fun o : Obj => bthen (bthen ((Below.refl _ w).alloc (Nat.le_refl _) _) h1) ((Below.refl _ w1).alloc (Nat.le_refl _) o))
  go_wp2_with fail
  go_ret
  exact MPost.still (hS.out.mono (by omega) (fun _ h => h) (fun k hk => hlt.out k hk)) (HB.out _)
set_option maxRecDepth 100000 in
set_option maxHeartbeats 2000000 in
theorem thr_low_m {w0 w : World} {x : Fx} {d : List Int} {g : List Bool} {m : Nat} {K : Nat → Prop} (h : St w0 w x d g m K) (hn : (x.n : Int) ≤ 8192) (b off p : Nat) (hp : p < x.n) (hA' : x.A = some ⟨b, off, none⟩) (a int : Int) (text : ByteArray) (op : Nat) (hop : op < 256) (he : endsK op = false) (hmany : manyK op = true) (htk : takesK op = 0) (hc : InsAt w b off p op a int text) (ha0 : 0 ≤ a) (ha1 : a ≤ 2048) (hlow : dAt d p < a) (EQ : throughS (⟨op, a, int, text.data.toList⟩ : Ins) d p = (d, false)) :
    Calls Try.prog 38 #[.pointer (some ⟨x.wb, 0, none⟩), .int .i64 p, .int .i64 (dAt d p)] w (MPost (throughS (⟨op, a, int, text.data.toList⟩ : Ins) d p).2 w0 w x (throughS (⟨op, a, int, text.data.toList⟩ : Ins) d p).1 g (m + 2) K) := by
  rw [EQ]
  clear EQ
  have hS := Lib.hid h
  have hlt := Lib.hid (fun k => h.lt (k := k))
  obtain ⟨k0, k1, k2, dl, dcell, wlt, dlt⟩ := h.cells
  clear h k1 k2 dcell dl
  obtain ⟨A, n, cc, wb, db, dc, base, sb, bm⟩ := x
  simp only at k0 wlt hp hn hA' 
  subst hA'
  skip
  unfold InsAt at hc
  obtain ⟨q0, q1, q2, q3⟩ := hc
  have ht0 := takesK_nn op
  have hl0 := leaveK_01 op
  have EK := Lib.hid (show kindV op = .agg #[.string (wordK op), .int .u8 (aB op), .bool (numK op), .int .u8 (tB op), .int .i64 0, .int .i64 (leaveK op), .bool true, .bool false] from by unfold kindV; rw [he, hmany, htk])
  clear he hmany htk
  have hb0 : decide (dAt d p < a) = true := decide_eq_true hlow
  generalize dAt d p = dp at *
  go_enter Try.func38, Try.ntmps38
  go_wp2_with fail
  refine (kind_any op hop _).mono ?_
  rintro e w1 ⟨rfl, h1⟩
  rw [EK.out]
  have c1 := (bcell h1).1
  have c2 := (bcell h1).2
  have s1 : w.heap.size < w1.heap.size := szlt h1 (by simp)
  have HB := Lib.hid (fun o : Obj => bthen (bthen ((Below.refl _ w).alloc (Nat.le_refl _) _) h1) ((Below.refl _ w1).alloc (Nat.le_refl _) o))
  go_wp2_with fail
  go_ret
  exact MPost.still (hS.out.mono (by omega) (fun _ h => h) (fun k hk => hlt.out k hk)) (HB.out _)
set_option maxRecDepth 100000 in
set_option maxHeartbeats 2000000 in
theorem thr_low_p {w0 w : World} {x : Fx} {d : List Int} {g : List Bool} {m : Nat} {K : Nat → Prop} (h : St w0 w x d g m K) (hn : (x.n : Int) ≤ 8192) (b off p : Nat) (hp : p < x.n) (hA' : x.A = some ⟨b, off, none⟩) (a int : Int) (text : ByteArray) (op : Nat) (hop : op < 256) (he : endsK op = false) (hmany : manyK op = false) (hc : InsAt w b off p op a int text) (hlow : dAt d p < takesK op) (EQ : throughS (⟨op, a, int, text.data.toList⟩ : Ins) d p = (d, false)) :
    Calls Try.prog 38 #[.pointer (some ⟨x.wb, 0, none⟩), .int .i64 p, .int .i64 (dAt d p)] w (MPost (throughS (⟨op, a, int, text.data.toList⟩ : Ins) d p).2 w0 w x (throughS (⟨op, a, int, text.data.toList⟩ : Ins) d p).1 g (m + 2) K) := by
  rw [EQ]
  clear EQ
  have hS := Lib.hid h
  have hlt := Lib.hid (fun k => h.lt (k := k))
  obtain ⟨k0, k1, k2, dl, dcell, wlt, dlt⟩ := h.cells
  clear h k1 k2 dcell dl
  obtain ⟨A, n, cc, wb, db, dc, base, sb, bm⟩ := x
  simp only at k0 wlt hp hn hA' 
  subst hA'
  skip
  unfold InsAt at hc
  obtain ⟨q0, q1, q2, q3⟩ := hc
  have ht0 := takesK_nn op
  have hl0 := leaveK_01 op
  have EK := Lib.hid (show kindV op = .agg #[.string (wordK op), .int .u8 (aB op), .bool (numK op), .int .u8 (tB op), .int .i64 (takesK op), .int .i64 (leaveK op), .bool false, .bool false] from by unfold kindV; rw [he, hmany])
  clear he hmany
  have hb0 : decide (dAt d p < takesK op) = true := decide_eq_true hlow
  generalize dAt d p = dp at *
  go_enter Try.func38, Try.ntmps38
  go_wp2_with fail
  refine (kind_any op hop _).mono ?_
  rintro e w1 ⟨rfl, h1⟩
  rw [EK.out]
  have c1 := (bcell h1).1
  have c2 := (bcell h1).2
  have s1 : w.heap.size < w1.heap.size := szlt h1 (by simp)
  have HB := Lib.hid (fun o : Obj => bthen (bthen ((Below.refl _ w).alloc (Nat.le_refl _) _) h1) ((Below.refl _ w1).alloc (Nat.le_refl _) o))
  go_wp2_with fail
  go_ret
  exact MPost.still (hS.out.mono (by omega) (fun _ h => h) (fun k hk => hlt.out k hk)) (HB.out _)
set_option maxRecDepth 100000 in
set_option maxHeartbeats 2000000 in
theorem thr_next_m {w0 w : World} {x : Fx} {d : List Int} {g : List Bool} {m : Nat} {K : Nat → Prop} (h : St w0 w x d g m K) (hn : (x.n : Int) ≤ 8192) (hm : m ≤ 100000) (b off p : Nat) (hp : p < x.n) (hA' : x.A = some ⟨b, off, none⟩) (a int : Int) (text : ByteArray) (op : Nat) (hop : op < 256) (he : endsK op = false) (hmany : manyK op = true) (hA : aK op ≠ 1) (htk : takesK op = 0) (hc : InsAt w b off p op a int text) (hD : dAt d p ≤ 8192) (h0 : 0 ≤ dAt d p) (ha0 : 0 ≤ a) (ha1 : a ≤ 2048) (hfit : ¬ dAt d p < a) (EQ : throughS (⟨op, a, int, text.data.toList⟩ : Ins) d p = meetS d (p + 1) (dAt d p - a + leaveK op)) :
    Calls Try.prog 38 #[.pointer (some ⟨x.wb, 0, none⟩), .int .i64 p, .int .i64 (dAt d p)] w (MPost (throughS (⟨op, a, int, text.data.toList⟩ : Ins) d p).2 w0 w x (throughS (⟨op, a, int, text.data.toList⟩ : Ins) d p).1 g (m + 2) K) := by
  rw [EQ]
  clear EQ
  have hS := Lib.hid h
  have hlt := Lib.hid (fun k => h.lt (k := k))
  obtain ⟨k0, k1, k2, dl, dcell, wlt, dlt⟩ := h.cells
  clear h k1 k2 dcell dl
  obtain ⟨A, n, cc, wb, db, dc, base, sb, bm⟩ := x
  simp only at k0 wlt hp hn hA' 
  subst hA'
  skip
  unfold InsAt at hc
  obtain ⟨q0, q1, q2, q3⟩ := hc
  have ht0 := takesK_nn op
  have hl0 := leaveK_01 op
  have EK := Lib.hid (show kindV op = .agg #[.string (wordK op), .int .u8 (aB op), .bool (numK op), .int .u8 (tB op), .int .i64 0, .int .i64 (leaveK op), .bool true, .bool false] from by unfold kindV; rw [he, hmany, htk])
  obtain ⟨o1, o2, o3, o4, o53⟩ := not_target op hA
  have t1 : ((op : Int) == 1) = false := beq_eq_false_iff_ne.2 (by omega)
  have t3 : ((op : Int) == 3) = false := beq_eq_false_iff_ne.2 (by omega)
  have t4 : ((op : Int) == 4) = false := beq_eq_false_iff_ne.2 (by omega)
  have t53 : ((op : Int) == 53) = false := beq_eq_false_iff_ne.2 (by omega)
  have tA : (aB op == 116) = false := by unfold aB; rw [if_neg hA]; (repeat' split) <;> rfl
  clear hA o1 o2 o3 o4 o53
  clear he hmany htk
  have hb0 : decide (dAt d p < a) = false := decide_eq_false hfit
  generalize dAt d p = dp at *
  go_enter Try.func38, Try.ntmps38
  go_wp2_with fail
  refine (kind_any op hop _).mono ?_
  rintro e w1 ⟨rfl, h1⟩
  rw [EK.out]
  have c1 := (bcell h1).1
  have c2 := (bcell h1).2
  have s1 : w.heap.size < w1.heap.size := szlt h1 (by simp)
  have HB := Lib.hid (fun o : Obj => bthen (bthen ((Below.refl _ w).alloc (Nat.le_refl _) _) h1) ((Below.refl _ w1).alloc (Nat.le_refl _) o))
  go_wp2_with fail
  refine (meet_st (hS.out.below (HB.out _)) hn (by omega) _ (p + 1) (by omega) (by simp only; omega) _ (by omega)).mono ?_
  rintro e w3 hM
  obtain rfl := hM.1
  have HM := Lib.hid hM
  clear hM
  go_wp2_with fail
  go_ret
  exact MPost.then hS.out.base (HB.out _) (HM.out.more (by omega))
set_option maxRecDepth 100000 in
set_option maxHeartbeats 2000000 in
theorem thr_next_p {w0 w : World} {x : Fx} {d : List Int} {g : List Bool} {m : Nat} {K : Nat → Prop} (h : St w0 w x d g m K) (hn : (x.n : Int) ≤ 8192) (hm : m ≤ 100000) (b off p : Nat) (hp : p < x.n) (hA' : x.A = some ⟨b, off, none⟩) (a int : Int) (text : ByteArray) (op : Nat) (hop : op < 256) (he : endsK op = false) (hmany : manyK op = false) (hA : aK op ≠ 1) (hc : InsAt w b off p op a int text) (hD : dAt d p ≤ 8192) (h0 : 0 ≤ dAt d p) (hfit : ¬ dAt d p < takesK op) (EQ : throughS (⟨op, a, int, text.data.toList⟩ : Ins) d p = meetS d (p + 1) (dAt d p - takesK op + leaveK op)) :
    Calls Try.prog 38 #[.pointer (some ⟨x.wb, 0, none⟩), .int .i64 p, .int .i64 (dAt d p)] w (MPost (throughS (⟨op, a, int, text.data.toList⟩ : Ins) d p).2 w0 w x (throughS (⟨op, a, int, text.data.toList⟩ : Ins) d p).1 g (m + 2) K) := by
  rw [EQ]
  clear EQ
  have hS := Lib.hid h
  have hlt := Lib.hid (fun k => h.lt (k := k))
  obtain ⟨k0, k1, k2, dl, dcell, wlt, dlt⟩ := h.cells
  clear h k1 k2 dcell dl
  obtain ⟨A, n, cc, wb, db, dc, base, sb, bm⟩ := x
  simp only at k0 wlt hp hn hA' 
  subst hA'
  skip
  unfold InsAt at hc
  obtain ⟨q0, q1, q2, q3⟩ := hc
  have ht0 := takesK_nn op
  have hl0 := leaveK_01 op
  have EK := Lib.hid (show kindV op = .agg #[.string (wordK op), .int .u8 (aB op), .bool (numK op), .int .u8 (tB op), .int .i64 (takesK op), .int .i64 (leaveK op), .bool false, .bool false] from by unfold kindV; rw [he, hmany])
  obtain ⟨o1, o2, o3, o4, o53⟩ := not_target op hA
  have t1 : ((op : Int) == 1) = false := beq_eq_false_iff_ne.2 (by omega)
  have t3 : ((op : Int) == 3) = false := beq_eq_false_iff_ne.2 (by omega)
  have t4 : ((op : Int) == 4) = false := beq_eq_false_iff_ne.2 (by omega)
  have t53 : ((op : Int) == 53) = false := beq_eq_false_iff_ne.2 (by omega)
  have tA : (aB op == 116) = false := by unfold aB; rw [if_neg hA]; (repeat' split) <;> rfl
  clear hA o1 o2 o3 o4 o53
  clear he hmany
  have hb0 : decide (dAt d p < takesK op) = false := decide_eq_false hfit
  generalize dAt d p = dp at *
  go_enter Try.func38, Try.ntmps38
  go_wp2_with fail
  refine (kind_any op hop _).mono ?_
  rintro e w1 ⟨rfl, h1⟩
  rw [EK.out]
  have c1 := (bcell h1).1
  have c2 := (bcell h1).2
  have s1 : w.heap.size < w1.heap.size := szlt h1 (by simp)
  have HB := Lib.hid (fun o : Obj => bthen (bthen ((Below.refl _ w).alloc (Nat.le_refl _) _) h1) ((Below.refl _ w1).alloc (Nat.le_refl _) o))
  go_wp2_with fail
  refine (meet_st (hS.out.below (HB.out _)) hn (by omega) _ (p + 1) (by omega) (by simp only; omega) _ (by omega)).mono ?_
  rintro e w3 hM
  obtain rfl := hM.1
  have HM := Lib.hid hM
  clear hM
  go_wp2_with fail
  go_ret
  exact MPost.then hS.out.base (HB.out _) (HM.out.more (by omega))
end Go.Proofs.Ytjfdokoigkdciaa
