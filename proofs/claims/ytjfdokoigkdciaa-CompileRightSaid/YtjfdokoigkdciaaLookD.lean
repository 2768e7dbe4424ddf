/- Going through a place whose instruction has a target, walked. Printed by a program. -/
import Derived.Test.YtjfdokoigkdciaaLookC
namespace Go.Proofs.Ytjfdokoigkdciaa
open Go.RowKit Go.Maps

set_option maxRecDepth 100000 in
set_option maxHeartbeats 2000000 in
theorem thr_1 {w0 w : World} {x : Fx} {d : List Int} {g : List Bool} {m : Nat} {K : Nat → Prop} (h : St w0 w x d g m K) (hn : (x.n : Int) ≤ 8192) (hm : m ≤ 100000) (b off p : Nat) (hp : p < x.n) (hA' : x.A = some ⟨b, off, none⟩) (a int : Int) (text : ByteArray) (hc : InsAt w b off p 1 a int text) (hD : dAt d p ≤ 8192) (h0 : 0 ≤ dAt d p) (q : Nat) (hqa : a = (q : Int)) (hqn : q < x.n) (EQ : throughS (⟨1, a, int, text.data.toList⟩ : Ins) d p = meetS d q (dAt d p)) :
    Calls Try.prog 38 #[.pointer (some ⟨x.wb, 0, none⟩), .int .i64 p, .int .i64 (dAt d p)] w (MPost (throughS (⟨1, a, int, text.data.toList⟩ : Ins) d p).2 w0 w x (throughS (⟨1, a, int, text.data.toList⟩ : Ins) d p).1 g (m + 2) K) := by
  rw [EQ]
  clear EQ
  have hS := Lib.hid h
  have hlt := Lib.hid (fun k => h.lt (k := k))
  obtain ⟨k0, k1, k2, dl, dcell, wlt, dlt⟩ := h.cells
  clear h k1 k2 dcell dl
  obtain ⟨A, n, cc, wb, db, dc, base, sb, bm⟩ := x
  simp only at k0 wlt hp hn hA' hqn
  subst hA'
  subst hqa
  unfold InsAt at hc
  obtain ⟨q0, q1, q2, q3⟩ := hc
  have EK := Lib.hid (show kindV 1 = .agg #[.string (wordK 1), .int .u8 116, .bool false, .int .u8 0, .int .i64 0, .int .i64 0, .bool false, .bool false] from rfl)
  have q0' : w.cell? ⟨b, off + p * 4, none⟩ = some (.int .u8 1) := q0
  clear q0
  generalize dAt d p = dp at *
  go_enter Try.func38, Try.ntmps38
  go_wp2_with fail
  refine (kind_1 _).mono ?_
  rintro e w1 ⟨rfl, h1⟩
  rw [EK.out]
  have c1 := (bcell h1).1
  have c2 := (bcell h1).2
  have s1 : w.heap.size < w1.heap.size := szlt h1 (by simp)
  have HB := Lib.hid (fun o : Obj => bthen (bthen ((Below.refl _ w).alloc (Nat.le_refl _) _) h1) ((Below.refl _ w1).alloc (Nat.le_refl _) o))
  go_wp2_with fail
  refine (meet_st (hS.out.below (HB.out _)) hn (by omega) _ q rfl (by simp only; omega) _ (by omega)).mono ?_
  rintro e w3 hM
  obtain rfl := hM.1
  have wlt1 := h1.size
  simp at wlt1
  have c3 := fun o => hM.cell (k := w.heap.size) o (by simp; omega) (fun hk => by have := (hlt.out _ hk).2; omega)
  have c4 := fun o => hM.cell (k := w1.heap.size) o (by simp) (fun hk => by have := (hlt.out _ hk).2; omega)
  have HM := Lib.hid hM
  clear hM
  generalize meetS d q dp = R at *
  obtain ⟨d1, b1⟩ := R
  simp only at HM ⊢
  cases b1
  all_goals
    go_wp2_with fail
    go_ret
    exact MPost.then hS.out.base (HB.out _) (HM.out.more (by omega))
set_option maxRecDepth 100000 in
set_option maxHeartbeats 2000000 in
theorem thr_2 {w0 w : World} {x : Fx} {d : List Int} {g : List Bool} {m : Nat} {K : Nat → Prop} (h : St w0 w x d g m K) (hn : (x.n : Int) ≤ 8192) (hm : m ≤ 100000) (b off p : Nat) (hp : p < x.n) (hA' : x.A = some ⟨b, off, none⟩) (a int : Int) (text : ByteArray) (hc : InsAt w b off p 2 a int text) (hD : dAt d p ≤ 8192) (h0 : 0 ≤ dAt d p) (q : Nat) (hqa : a = (q : Int)) (hqn : q < x.n) (hfit : ¬ dAt d p < 1) (EQ : throughS (⟨2, a, int, text.data.toList⟩ : Ins) d p = bothR (meetS d q (dAt d p - 1)) p (dAt d p - 1)) :
    Calls Try.prog 38 #[.pointer (some ⟨x.wb, 0, none⟩), .int .i64 p, .int .i64 (dAt d p)] w (MPost (throughS (⟨2, a, int, text.data.toList⟩ : Ins) d p).2 w0 w x (throughS (⟨2, a, int, text.data.toList⟩ : Ins) d p).1 g (m + 2) K) := by
  rw [EQ]
  clear EQ
  have hS := Lib.hid h
  have hlt := Lib.hid (fun k => h.lt (k := k))
  obtain ⟨k0, k1, k2, dl, dcell, wlt, dlt⟩ := h.cells
  clear h k1 k2 dcell dl
  obtain ⟨A, n, cc, wb, db, dc, base, sb, bm⟩ := x
  simp only at k0 wlt hp hn hA' hqn
  subst hA'
  subst hqa
  unfold InsAt at hc
  obtain ⟨q0, q1, q2, q3⟩ := hc
  have EK := Lib.hid (show kindV 2 = .agg #[.string (wordK 2), .int .u8 116, .bool false, .int .u8 0, .int .i64 1, .int .i64 0, .bool false, .bool false] from rfl)
  have q0' : w.cell? ⟨b, off + p * 4, none⟩ = some (.int .u8 2) := q0
  clear q0
  have hb0 : decide (dAt d p < 1) = false := decide_eq_false hfit
  generalize dAt d p = dp at *
  go_enter Try.func38, Try.ntmps38
  go_wp2_with fail
  refine (kind_2 _).mono ?_
  rintro e w1 ⟨rfl, h1⟩
  rw [EK.out]
  have c1 := (bcell h1).1
  have c2 := (bcell h1).2
  have s1 : w.heap.size < w1.heap.size := szlt h1 (by simp)
  have HB := Lib.hid (fun o : Obj => bthen (bthen ((Below.refl _ w).alloc (Nat.le_refl _) _) h1) ((Below.refl _ w1).alloc (Nat.le_refl _) o))
  go_wp2_with fail
  refine (meet_st (hS.out.below (HB.out _)) hn (by omega) _ q rfl (by simp only; omega) _ (by omega)).mono ?_
  rintro e w3 hM
  obtain rfl := hM.1
  have wlt1 := h1.size
  simp at wlt1
  have c3 := fun o => hM.cell (k := w.heap.size) o (by simp; omega) (fun hk => by have := (hlt.out _ hk).2; omega)
  have c4 := fun o => hM.cell (k := w1.heap.size) o (by simp) (fun hk => by have := (hlt.out _ hk).2; omega)
  have HM := Lib.hid hM
  clear hM
  generalize meetS d q (dp - 1) = R at *
  obtain ⟨d1, b1⟩ := R
  simp only at HM ⊢
  cases b1
  · go_wp2_with fail
    go_ret
    show MPost false w0 w _ d1 g (m + 2) K _ _
    exact MPost.then hS.out.base (HB.out _) (HM.out.more (by omega))
  · go_wp2_with fail
    refine (meet_st HM.out.2.2 hn (by omega) _ (p + 1) (by omega) (by simp only; omega) _ (by omega)).mono ?_
    rintro e w4 hM2
    obtain rfl := hM2.1
    have HM2 := Lib.hid hM2
    clear hM2
    go_wp2_with fail
    go_ret
    show MPost (meetS d1 (p + 1) (dp - 1)).2 w0 w _ (meetS d1 (p + 1) (dp - 1)).1 g (m + 2) K _ _
    exact MPost.then hS.out.base (HB.out _) (MPost.twice (hS.out.below (HB.out _)).base HM.out (Below.refl _ _) HM2.out)
set_option maxRecDepth 100000 in
set_option maxHeartbeats 2000000 in
theorem thr_3 {w0 w : World} {x : Fx} {d : List Int} {g : List Bool} {m : Nat} {K : Nat → Prop} (h : St w0 w x d g m K) (hn : (x.n : Int) ≤ 8192) (hm : m ≤ 100000) (b off p : Nat) (hp : p < x.n) (hA' : x.A = some ⟨b, off, none⟩) (a int : Int) (text : ByteArray) (hc : InsAt w b off p 3 a int text) (hD : dAt d p ≤ 8192) (h0 : 0 ≤ dAt d p) (q : Nat) (hqa : a = (q : Int)) (hqn : q < x.n) (hfit : ¬ dAt d p < 1) (EQ : throughS (⟨3, a, int, text.data.toList⟩ : Ins) d p = bothR (meetS d q (dAt d p)) p (dAt d p - 1)) :
    Calls Try.prog 38 #[.pointer (some ⟨x.wb, 0, none⟩), .int .i64 p, .int .i64 (dAt d p)] w (MPost (throughS (⟨3, a, int, text.data.toList⟩ : Ins) d p).2 w0 w x (throughS (⟨3, a, int, text.data.toList⟩ : Ins) d p).1 g (m + 2) K) := by
  rw [EQ]
  clear EQ
  have hS := Lib.hid h
  have hlt := Lib.hid (fun k => h.lt (k := k))
  obtain ⟨k0, k1, k2, dl, dcell, wlt, dlt⟩ := h.cells
  clear h k1 k2 dcell dl
  obtain ⟨A, n, cc, wb, db, dc, base, sb, bm⟩ := x
  simp only at k0 wlt hp hn hA' hqn
  subst hA'
  subst hqa
  unfold InsAt at hc
  obtain ⟨q0, q1, q2, q3⟩ := hc
  have EK := Lib.hid (show kindV 3 = .agg #[.string (wordK 3), .int .u8 116, .bool false, .int .u8 0, .int .i64 1, .int .i64 0, .bool false, .bool false] from rfl)
  have q0' : w.cell? ⟨b, off + p * 4, none⟩ = some (.int .u8 3) := q0
  clear q0
  have hb0 : decide (dAt d p < 1) = false := decide_eq_false hfit
  generalize dAt d p = dp at *
  go_enter Try.func38, Try.ntmps38
  go_wp2_with fail
  refine (kind_3 _).mono ?_
  rintro e w1 ⟨rfl, h1⟩
  rw [EK.out]
  have c1 := (bcell h1).1
  have c2 := (bcell h1).2
  have s1 : w.heap.size < w1.heap.size := szlt h1 (by simp)
  have HB := Lib.hid (fun o : Obj => bthen (bthen ((Below.refl _ w).alloc (Nat.le_refl _) _) h1) ((Below.refl _ w1).alloc (Nat.le_refl _) o))
  go_wp2_with fail
  refine (meet_st (hS.out.below (HB.out _)) hn (by omega) _ q rfl (by simp only; omega) _ (by omega)).mono ?_
  rintro e w3 hM
  obtain rfl := hM.1
  have wlt1 := h1.size
  simp at wlt1
  have c3 := fun o => hM.cell (k := w.heap.size) o (by simp; omega) (fun hk => by have := (hlt.out _ hk).2; omega)
  have c4 := fun o => hM.cell (k := w1.heap.size) o (by simp) (fun hk => by have := (hlt.out _ hk).2; omega)
  have HM := Lib.hid hM
  clear hM
  generalize meetS d q (dp) = R at *
  obtain ⟨d1, b1⟩ := R
  simp only at HM ⊢
  cases b1
  · go_wp2_with fail
    go_ret
    show MPost false w0 w _ d1 g (m + 2) K _ _
    exact MPost.then hS.out.base (HB.out _) (HM.out.more (by omega))
  · go_wp2_with fail
    refine (meet_st HM.out.2.2 hn (by omega) _ (p + 1) (by omega) (by simp only; omega) _ (by omega)).mono ?_
    rintro e w4 hM2
    obtain rfl := hM2.1
    have HM2 := Lib.hid hM2
    clear hM2
    go_wp2_with fail
    go_ret
    show MPost (meetS d1 (p + 1) (dp - 1)).2 w0 w _ (meetS d1 (p + 1) (dp - 1)).1 g (m + 2) K _ _
    exact MPost.then hS.out.base (HB.out _) (MPost.twice (hS.out.below (HB.out _)).base HM.out (Below.refl _ _) HM2.out)
set_option maxRecDepth 100000 in
set_option maxHeartbeats 2000000 in
theorem thr_4 {w0 w : World} {x : Fx} {d : List Int} {g : List Bool} {m : Nat} {K : Nat → Prop} (h : St w0 w x d g m K) (hn : (x.n : Int) ≤ 8192) (hm : m ≤ 100000) (b off p : Nat) (hp : p < x.n) (hA' : x.A = some ⟨b, off, none⟩) (a int : Int) (text : ByteArray) (hc : InsAt w b off p 4 a int text) (hD : dAt d p ≤ 8192) (h0 : 0 ≤ dAt d p) (q : Nat) (hqa : a = (q : Int)) (hqn : q < x.n) (hfit : ¬ dAt d p < 1) (EQ : throughS (⟨4, a, int, text.data.toList⟩ : Ins) d p = bothR (meetS d q (dAt d p)) p (dAt d p - 1)) :
    Calls Try.prog 38 #[.pointer (some ⟨x.wb, 0, none⟩), .int .i64 p, .int .i64 (dAt d p)] w (MPost (throughS (⟨4, a, int, text.data.toList⟩ : Ins) d p).2 w0 w x (throughS (⟨4, a, int, text.data.toList⟩ : Ins) d p).1 g (m + 2) K) := by
  rw [EQ]
  clear EQ
  have hS := Lib.hid h
  have hlt := Lib.hid (fun k => h.lt (k := k))
  obtain ⟨k0, k1, k2, dl, dcell, wlt, dlt⟩ := h.cells
  clear h k1 k2 dcell dl
  obtain ⟨A, n, cc, wb, db, dc, base, sb, bm⟩ := x
  simp only at k0 wlt hp hn hA' hqn
  subst hA'
  subst hqa
  unfold InsAt at hc
  obtain ⟨q0, q1, q2, q3⟩ := hc
  have EK := Lib.hid (show kindV 4 = .agg #[.string (wordK 4), .int .u8 116, .bool false, .int .u8 0, .int .i64 1, .int .i64 0, .bool false, .bool false] from rfl)
  have q0' : w.cell? ⟨b, off + p * 4, none⟩ = some (.int .u8 4) := q0
  clear q0
  have hb0 : decide (dAt d p < 1) = false := decide_eq_false hfit
  generalize dAt d p = dp at *
  go_enter Try.func38, Try.ntmps38
  go_wp2_with fail
  refine (kind_4 _).mono ?_
  rintro e w1 ⟨rfl, h1⟩
  rw [EK.out]
  have c1 := (bcell h1).1
  have c2 := (bcell h1).2
  have s1 : w.heap.size < w1.heap.size := szlt h1 (by simp)
  have HB := Lib.hid (fun o : Obj => bthen (bthen ((Below.refl _ w).alloc (Nat.le_refl _) _) h1) ((Below.refl _ w1).alloc (Nat.le_refl _) o))
  go_wp2_with fail
  refine (meet_st (hS.out.below (HB.out _)) hn (by omega) _ q rfl (by simp only; omega) _ (by omega)).mono ?_
  rintro e w3 hM
  obtain rfl := hM.1
  have wlt1 := h1.size
  simp at wlt1
  have c3 := fun o => hM.cell (k := w.heap.size) o (by simp; omega) (fun hk => by have := (hlt.out _ hk).2; omega)
  have c4 := fun o => hM.cell (k := w1.heap.size) o (by simp) (fun hk => by have := (hlt.out _ hk).2; omega)
  have HM := Lib.hid hM
  clear hM
  generalize meetS d q (dp) = R at *
  obtain ⟨d1, b1⟩ := R
  simp only at HM ⊢
  cases b1
  · go_wp2_with fail
    go_ret
    show MPost false w0 w _ d1 g (m + 2) K _ _
    exact MPost.then hS.out.base (HB.out _) (HM.out.more (by omega))
  · go_wp2_with fail
    refine (meet_st HM.out.2.2 hn (by omega) _ (p + 1) (by omega) (by simp only; omega) _ (by omega)).mono ?_
    rintro e w4 hM2
    obtain rfl := hM2.1
    have HM2 := Lib.hid hM2
    clear hM2
    go_wp2_with fail
    go_ret
    show MPost (meetS d1 (p + 1) (dp - 1)).2 w0 w _ (meetS d1 (p + 1) (dp - 1)).1 g (m + 2) K _ _
    exact MPost.then hS.out.base (HB.out _) (MPost.twice (hS.out.below (HB.out _)).base HM.out (Below.refl _ _) HM2.out)
set_option maxRecDepth 100000 in
set_option maxHeartbeats 2000000 in
theorem thr_53 {w0 w : World} {x : Fx} {d : List Int} {g : List Bool} {m : Nat} {K : Nat → Prop} (h : St w0 w x d g m K) (hn : (x.n : Int) ≤ 8192) (hm : m ≤ 100000) (b off p : Nat) (hp : p < x.n) (hA' : x.A = some ⟨b, off, none⟩) (a int : Int) (text : ByteArray) (hc : InsAt w b off p 53 a int text) (hD : dAt d p ≤ 8192) (h0 : 0 ≤ dAt d p) (q : Nat) (hqa : a = (q : Int)) (hqn : q < x.n) (EQ : throughS (⟨53, a, int, text.data.toList⟩ : Ins) d p = bothR (meetS d q (0)) p (dAt d p + 1)) :
    Calls Try.prog 38 #[.pointer (some ⟨x.wb, 0, none⟩), .int .i64 p, .int .i64 (dAt d p)] w (MPost (throughS (⟨53, a, int, text.data.toList⟩ : Ins) d p).2 w0 w x (throughS (⟨53, a, int, text.data.toList⟩ : Ins) d p).1 g (m + 2) K) := by
  rw [EQ]
  clear EQ
  have hS := Lib.hid h
  have hlt := Lib.hid (fun k => h.lt (k := k))
  obtain ⟨k0, k1, k2, dl, dcell, wlt, dlt⟩ := h.cells
  clear h k1 k2 dcell dl
  obtain ⟨A, n, cc, wb, db, dc, base, sb, bm⟩ := x
  simp only at k0 wlt hp hn hA' hqn
  subst hA'
  subst hqa
  unfold InsAt at hc
  obtain ⟨q0, q1, q2, q3⟩ := hc
  have EK := Lib.hid (show kindV 53 = .agg #[.string (wordK 53), .int .u8 116, .bool false, .int .u8 0, .int .i64 0, .int .i64 1, .bool false, .bool false] from rfl)
  have q0' : w.cell? ⟨b, off + p * 4, none⟩ = some (.int .u8 53) := q0
  clear q0
  generalize dAt d p = dp at *
  go_enter Try.func38, Try.ntmps38
  go_wp2_with fail
  refine (kind_53 _).mono ?_
  rintro e w1 ⟨rfl, h1⟩
  rw [EK.out]
  have c1 := (bcell h1).1
  have c2 := (bcell h1).2
  have s1 : w.heap.size < w1.heap.size := szlt h1 (by simp)
  have HB := Lib.hid (fun o : Obj => bthen (bthen ((Below.refl _ w).alloc (Nat.le_refl _) _) h1) ((Below.refl _ w1).alloc (Nat.le_refl _) o))
  go_wp2_with fail
  refine (meet_st (hS.out.below (HB.out _)) hn (by omega) _ q rfl (by simp only; omega) _ (by omega)).mono ?_
  rintro e w3 hM
  obtain rfl := hM.1
  have wlt1 := h1.size
  simp at wlt1
  have c3 := fun o => hM.cell (k := w.heap.size) o (by simp; omega) (fun hk => by have := (hlt.out _ hk).2; omega)
  have c4 := fun o => hM.cell (k := w1.heap.size) o (by simp) (fun hk => by have := (hlt.out _ hk).2; omega)
  have HM := Lib.hid hM
  clear hM
  generalize meetS d q (0) = R at *
  obtain ⟨d1, b1⟩ := R
  simp only at HM ⊢
  cases b1
  · go_wp2_with fail
    go_ret
    show MPost false w0 w _ d1 g (m + 2) K _ _
    exact MPost.then hS.out.base (HB.out _) (HM.out.more (by omega))
  · go_wp2_with fail
    refine (meet_st HM.out.2.2 hn (by omega) _ (p + 1) (by omega) (by simp only; omega) _ (by omega)).mono ?_
    rintro e w4 hM2
    obtain rfl := hM2.1
    have HM2 := Lib.hid hM2
    clear hM2
    go_wp2_with fail
    go_ret
    show MPost (meetS d1 (p + 1) (dp + 1)).2 w0 w _ (meetS d1 (p + 1) (dp + 1)).1 g (m + 2) K _ _
    exact MPost.then hS.out.base (HB.out _) (MPost.twice (hS.out.below (HB.out _)).base HM.out (Below.refl _ _) HM2.out)
end Go.Proofs.Ytjfdokoigkdciaa
