/- The heap: new, its length, its first; walked. The heap: dropping the first, walked. The heap: dropping the first of many, popping; walked. The heap: pushing, walked. -/
import Derived.Test.YtjfdokoigkdciaaHeapD
namespace Go.Proofs.Ytjfdokoigkdciaa
open Go.RowKit Go.Maps

theorem new_any (w : World) : Calls Try.prog 25 #[] w fun e w' => e = .returned (.pointer (some ⟨w.heap.size + 1, 0, none⟩)) ∧
    HP w' (w.heap.size + 2) (w.heap.size + 1) w.heap.size (.slice none 0 0) 0 [] 0 ∧ Below w.heap.size w w' := by
  have hmm := @run_makeMap Try.prog
  go_enter Try.func25, Try.ntmps25
  go_wp2
  go_ret
  refine ⟨by simp, ?_, by go_grown⟩
  have e1 : (w.alloc (.map #[] 0)).heap.size = w.heap.size + 1 := by simp
  exact {
    c0 := by rw [← e1, World.cell?_alloc_new]; rfl
    c1 := by rw [← e1, World.cell?_alloc_new]; rfl
    c2 := by rw [← e1, World.cell?_alloc_new]; rfl
    c3 := by rw [← e1, World.cell?_alloc_new]; rfl
    fz := fun o => by rw [← e1]; simp
    row := World.ownsRow_nil _ _ _ _
    map := ⟨_, ownsMap_at rfl _⟩
    hs := by omega
    hm := by omega
    ne := by omega
    hb := by simp }
theorem len_any {w : World} {base sb bm : Nat} {sl : Value} {nx : Int} {L : List Thing} {c : Nat} (h : HP w base sb bm sl nx L c) : Calls Try.prog 55 #[.pointer (some ⟨sb, 0, none⟩)] w (Ret (.int .i64 L.length) w) := by
  obtain ⟨A, cp, rfl⟩ := own_slice h.row
  have c1 := h.c1
  clear h
  go_enter Try.func55, Try.ntmps55
  go_wp2
  go_ret
  exact ⟨rfl, rfl⟩
theorem peek_none {w : World} {base sb bm : Nat} {sl : Value} {nx : Int} {c : Nat} (h : HP w base sb bm sl nx [] c) : Calls Try.prog 49 #[.pointer (some ⟨sb, 0, none⟩)] w (Ret (.tuple #[.int .i64 0, .int .i64 0, .int .i64 0, .bool false]) w) := by
  go_enter Try.func49, Try.ntmps49
  go_wp2_with fail
  refine (len_any h).mono ?_
  rintro e w1 ⟨rfl, rfl⟩
  go_wp2_with fail
  exact bodyPost_ret (v := .tuple #[.int .i64 0, .int .i64 0, .int .i64 0, .bool false]) (by simp [results, Try.results49, go_sem]) rfl ⟨rfl, rfl⟩
theorem peek_some {w : World} {base sb bm g cap : Nat} {nx : Int} {L : List Thing} {c : Nat} (h : HP w base sb bm (.slice (some ⟨g, 0, none⟩) L.length cap) nx L c) (h0 : 0 < L.length) :
    Calls Try.prog 49 #[.pointer (some ⟨sb, 0, none⟩)] w (RetB (.tuple #[.int .i64 (atL L 0).key, .int .i64 (atL L 0).v, .int .i64 (atL L 0).num, .bool true]) w) := by
  have c1 := h.c1
  obtain ⟨r0, r1, r2⟩ := h.cells rfl 0 h0
  simp only [Nat.zero_mul, Nat.zero_add] at r0 r1 r2
  generalize atL L 0 = x at *
  obtain ⟨xk, xn, xv⟩ := x
  simp only at r0 r1 r2
  have hsb := h.lt_sb
  have hne : ((L.length : Int) == 0) = false := by rw [beq_eq_false_iff_ne]; omega
  have hlt : (0 : Int) < (L.length : Int) := by omega
  go_enter Try.func49, Try.ntmps49
  go_wp2_with fail
  refine (len_any h).mono ?_
  rintro e w1 ⟨rfl, rfl⟩
  clear h
  go_wp2_with fail
  go_region
  go_wp2_with fail
  exact bodyPost_ret (v := .tuple #[.int .i64 xk, .int .i64 xv, .int .i64 xn, .bool true]) (by simp [results, Try.results49, go_sem]) rfl ⟨rfl, by go_grown⟩
end Go.Proofs.Ytjfdokoigkdciaa
namespace Go.Proofs.Ytjfdokoigkdciaa
open Go.RowKit Go.Maps

theorem Turn.weaken {w w' : World} {p q : Nat → Prop} (h : Turn w w' p) (k : ∀ j, p j → q j) : Turn w w' q := ⟨h.1, h.2.1, h.2.2.1, h.size, fun j hj hn => h.block hj (fun e => hn (k j e))⟩
theorem Turn.of_setCell {w : World} {a : Addr} {u : Value} {p : Nat → Prop} (hp : p a.block) : Turn w (w.setCell a u) p :=
  ⟨rfl, rfl, rfl, by simp, fun k _ hn => heap_setCell_other w a k u (fun e => hn (e ▸ hp))⟩
theorem HP.map_turned {w w' : World} {base sb bm : Nat} {sl : Value} {nx : Int} {L : List Thing} {c c' : Nat} {D : MapD} (h : HP w base sb bm sl nx L c) (t : Turn w w' (fun k => k = bm)) (hm : w'.ownsMap Try.prog kI (plainElem Try.prog kI) bm c' D) : HP w' base sb bm sl nx L c' where
  c0 := (t.cell 0 h.lt_sb h.ne).trans h.c0
  c1 := (t.cell 1 h.lt_sb h.ne).trans h.c1
  c2 := (t.cell 2 h.lt_sb h.ne).trans h.c2
  c3 := (t.cell 3 h.lt_sb h.ne).trans h.c3
  fz := fun o => (t.frozen o h.lt_sb h.ne).trans (h.fz o)
  row := own_block h.row fun _ hg => t.block (h.own_ne hg).2.1 (h.own_ne hg).2.2.2
  map := ⟨D, hm⟩
  hs := h.hs
  hm := h.hm
  ne := h.ne
  hb := Nat.le_trans h.hb t.size
theorem pop_HP {w : World} {base sb bm g cap : Nat} {nx : Int} {L : List Thing} {c m : Nat} (h : HP w base sb bm (.slice (some ⟨g, 0, none⟩) L.length cap) nx L c) (hL : L.length = m + 1) :
    HP ((laidW w g m zT).setCell ⟨sb, 1, none⟩ (.slice (some ⟨g, 0, none⟩) m cap)) base sb bm (.slice (some ⟨g, 0, none⟩) m cap) nx (L.take m) c ∧ Turn w ((laidW w g m zT).setCell ⟨sb, 1, none⟩ (.slice (some ⟨g, 0, none⟩) m cap)) (fun k => k = sb ∨ k = g) := by
  obtain ⟨hrow, hgr⟩ := laidW_row h.row (show m < L.length by omega) zT
  obtain ⟨hgb, hg, hgs, hgm⟩ := h.own_ne (g := g) rfl
  have T1 : Turn w (laidW w g m zT) (fun k => k = sb ∨ k = g) := Turn.of_grown hgr (.inr rfl)
  have T1' : Turn w (laidW w g m zT) (fun k => k = g) := Turn.of_grown hgr rfl
  have T2 := T1.then (q := fun k => k = sb) (Turn.of_setCell (a := ⟨sb, 1, none⟩) (u := .slice (some ⟨g, 0, none⟩) m cap) (p := fun k => k = sb) rfl) (fun _ _ h => .inl h)
  have ns : ¬ sb = g := fun e => hgs e.symm
  have k0 : ∀ o, (laidW w g m zT).cell? ⟨sb, o, none⟩ = w.cell? ⟨sb, o, none⟩ := fun o => T1'.cell o h.lt_sb ns
  have kf : ∀ o, (laidW w g m zT).frozen? ⟨sb, o, none⟩ = w.frozen? ⟨sb, o, none⟩ := fun o => T1'.frozen o h.lt_sb ns
  have ko : ∀ o, o ≠ 1 → ((laidW w g m zT).setCell ⟨sb, 1, none⟩ (.slice (some ⟨g, 0, none⟩) m cap)).cell? ⟨sb, o, none⟩ = w.cell? ⟨sb, o, none⟩ := fun o ho => (World.cell?_setCell_other _ _ _ _ (fun e => by injection e with _ e2 _; exact ho e2.symm)).trans (k0 o)
  have e : cellsL (L.set m zT) = cellsL (L.take m) ++ cellsL [zT] := by
    rw [← cellsL_append]
    congr 1
    rw [List.set_eq_take_append_cons_drop, if_pos (by omega), List.drop_of_length_le (by omega)]
  have hl : (L.take m).length = m := by simp; omega
  refine ⟨?_, T2⟩
  exact {
    c0 := (ko 0 (by omega)).trans h.c0
    c1 := World.cell?_setCell_same _ _ _ ((k0 1).trans h.c1)
    c2 := (ko 2 (by omega)).trans h.c2
    c3 := (ko 3 (by omega)).trans h.c3
    fz := fun o => (World.frozen?_setCell _ _ _ _).trans ((kf o).trans (h.fz o))
    row := by
      rw [hl]
      have r1 := ownsRow_setCell_other hrow (a := ⟨sb, 1, none⟩) (by simpa [Value.ownBlock] using hgs) (.slice (some ⟨g, 0, none⟩) m cap)
      rw [e, hL] at r1
      exact ownsRow_pop (by rw [cellsL_length, hl]) r1
    map := by
      obtain ⟨D, hD⟩ := h.map
      exact ⟨D, map_block hD (T2.block h.lt_bm (fun hh => hh.elim (fun e => h.ne e.symm) (fun e => hgm e.symm)))⟩
    hs := h.hs
    hm := h.hm
    ne := h.ne
    hb := Nat.le_trans h.hb T2.size }

theorem drop_one {w : World} {base sb bm g cap : Nat} {nx : Int} {L : List Thing} {c : Nat} (h : HP w base sb bm (.slice (some ⟨g, 0, none⟩) L.length cap) nx L c) (hL : L.length = 1) (hwf : wfL L) :
    Calls Try.prog 50 #[.pointer (some ⟨sb, 0, none⟩), .int .i64 0] w fun e w' => e = .returned (.tuple #[]) ∧
      HP w' base sb bm (.slice (some ⟨g, 0, none⟩) 0 cap) nx [] c ∧ Turn w w' (fun k => k = sb ∨ k = bm ∨ k = g) := by
  have c1 := h.c1
  have c2 := h.c2
  have f1 := h.fz 1
  rw [hL] at c1
  obtain ⟨r0, r1, r2⟩ := h.cells rfl 0 (by omega)
  simp only [Nat.zero_mul, Nat.zero_add] at r0 r1 r2
  have hwx := hwf.at (i := 0) (by omega)
  generalize hx : atL L 0 = x at *
  obtain ⟨xk, xn, xv⟩ := x
  simp only at r0 r1 r2 hwx
  have hsb := h.lt_sb
  have hbm := h.lt_bm
  obtain ⟨hgb, hg, hgs, hgm⟩ := h.own_ne (g := g) rfl
  have fg := h.row.frozenAt
  obtain ⟨D, hD⟩ := h.map
  have H := Lib.hid h
  clear h hx
  go_enter Try.func50, Try.ntmps50
  go_wp2
  have hD1 := ((hD.alloc (.cells #[.int .i64 xk, .int .i64 xn, .int .i64 xv] 91)).drew)
  obtain ⟨w2, hrun, hown2, hturn2⟩ := hD1.drop keyedI Try.underlying81 (keyOf_int_mk Try.underlying3 hwx) 0
  simp only [kI] at hrun
  go_region
  have T2 : Turn w w2 (fun k => k = bm) := (Turn.of_below (p := fun k => k = bm) (((Below.refl _ w).alloc (Nat.le_refl _) _).drew)).then (Turn.of_map (p := fun k => k = bm) hturn2 rfl) (fun _ _ h => h)
  have d1 := (T2.cell 1 hsb H.out.ne).trans c1
  have s0 := (T2.cell 0 hg hgm).trans r0
  have s1 := (T2.cell 1 hg hgm).trans r1
  have s2 := (T2.cell 2 hg hgm).trans r2
  have e1 := (T2.frozen 1 hsb H.out.ne).trans f1
  have eg : ∀ j, w2.frozen? ⟨g, j, none⟩ = false := fun j => (T2.frozen j hg hgm).trans (fg j)
  have hsb2 := Nat.lt_of_lt_of_le hsb T2.size
  have hg2 := Nat.lt_of_lt_of_le hg T2.size
  have hgs' : sb ≠ g := fun e => hgs e.symm
  have HW := Lib.hid T2
  have HO := Lib.hid hown2
  clear c1 c2 r0 r1 r2 f1 fg hrun hD hD1 T2 hown2
  go_wp2
  (try simp only [Exit.inBlock, Exit.then])
  refine bodyPost_ret (results_none rfl _ _ _) rfl ?_
  have hp2 := H.out.map_turned HW.out HO.out
  obtain ⟨hp3, T3⟩ := pop_HP (m := 0) hp2 hL
  refine ⟨rfl, ?_, ?_⟩
  · rw [List.take_zero] at hp3
    exact hp3.below ((Below.refl _ _).alloc (Nat.le_refl _) _)
  · exact (((HW.out.weaken (fun _ h => .inr (.inl h))).then (p := fun k => k = sb ∨ k = bm ∨ k = g) (q := fun k => k = sb ∨ k = g) T3 (fun _ _ h => h.elim .inl (fun h => .inr (.inr h))))).then (q := fun _ => False) (Turn.of_below ((Below.refl _ _).alloc (Nat.le_refl _) _)) (fun _ _ h => h.elim)
end Go.Proofs.Ytjfdokoigkdciaa
namespace Go.Proofs.Ytjfdokoigkdciaa
open Go.RowKit Go.Maps

set_option maxRecDepth 100000 in
set_option maxHeartbeats 2000000 in
theorem drop_more {w : World} {base sb bm g cap : Nat} {nx : Int} {L : List Thing} {c m : Nat} (h : HP w base sb bm (.slice (some ⟨g, 0, none⟩) L.length cap) nx L c) (hL : L.length = m + 1) (hm0 : 0 < m) (hheap : IsHeap L) (hwf : wfL L) (h64 : (L.length : Int) ≤ 1000000000) (hc : c + 3 * L.length + 10 < maxLen) :
    Calls Try.prog 50 #[.pointer (some ⟨sb, 0, none⟩), .int .i64 0] w fun e w' => e = .returned (.tuple #[]) ∧
      ∃ L' : List Thing, (atL L 0 :: L').Perm L ∧ IsHeap L' ∧ HP w' base sb bm (.slice (some ⟨g, 0, none⟩) m cap) nx L' (c + 3 * L.length + 10) ∧ Turn w w' (fun k => k = sb ∨ k = bm ∨ k = g) := by
  have c1 := h.c1
  have c2 := h.c2
  have f1 := h.fz 1
  obtain ⟨r0, r1, r2⟩ := h.cells rfl 0 (by omega)
  simp only [Nat.zero_mul, Nat.zero_add] at r0 r1 r2
  obtain ⟨y0, y1, y2⟩ := h.cells rfl m (by omega)
  have hcap : L.length ≤ cap := by
    rcases h.row.2 with ⟨h1, _⟩ | ⟨g', cap', cur, hv, _, _, h2, _⟩
    · cases h1
    · injection hv with _ _ e3; omega
  have hcap2 : cap ≤ 9223372036854775807 := by
    rcases h.row.2 with ⟨h1, _⟩ | ⟨g', cap', cur, hv, _, _, _, h2, _⟩
    · cases h1
    · injection hv with _ _ e3; simp only [maxLen] at h2; omega
  have hwx := hwf.at (i := 0) (by omega)
  have hwy := hwf.at (i := m) (by omega)
  generalize hx : atL L 0 = x at *
  obtain ⟨xk, xn, xv⟩ := x
  generalize hy : atL L m = y at *
  obtain ⟨yk, yn, yv⟩ := y
  simp only at r0 r1 r2 hwx y0 y1 y2 hwy
  have hsb := h.lt_sb
  have hbm := h.lt_bm
  obtain ⟨hgb, hg, hgs, hgm⟩ := h.own_ne (g := g) rfl
  have fg := h.row.frozenAt
  obtain ⟨D, hD⟩ := h.map
  have H := Lib.hid h
  have HX := Lib.hid hx
  have HY := Lib.hid hy
  have HLm := Lib.hid hL
  obtain ⟨n, hn⟩ : ∃ n, n = L.length := ⟨_, rfl⟩
  rw [← hn] at c1 hcap
  have hw1 : IntKind.i64.wrap ((n : Int) - 1) = (m : Int) := by rw [IntWalk.i64_in _ (by omega)]; omega
  have hmn : m < n := by omega
  have hn0 : (0 : Int) < (n : Int) := by omega
  have hmn2 : (m : Int) < (n : Int) := by omega
  have hmc : (m : Int) ≤ (cap : Int) := by omega
  have hm1 : ((0 : Int) == (m : Int)) = false := by rw [beq_eq_false_iff_ne]; omega
  have HN := Lib.hid hn
  clear h hx hy hL hn
  go_enter Try.func50, Try.ntmps50
  go_wp2
  have hD1 := ((hD.alloc (.cells #[.int .i64 xk, .int .i64 xn, .int .i64 xv] 91)).drew)
  obtain ⟨w2, hrun, hown2, hturn2⟩ := hD1.drop keyedI Try.underlying81 (keyOf_int_mk Try.underlying3 hwx) 0
  simp only [kI] at hrun
  go_region
  have T2 : Turn w w2 (fun k => k = bm) := (Turn.of_below (p := fun k => k = bm) (((Below.refl _ w).alloc (Nat.le_refl _) _).drew)).then (Turn.of_map (p := fun k => k = bm) hturn2 rfl) (fun _ _ h => h)
  have d1 := (T2.cell 1 hsb H.out.ne).trans c1
  have s0 := (T2.cell (m * 3) hg hgm).trans y0
  have s1 := (T2.cell (m * 3 + 1) hg hgm).trans y1
  have s2 := (T2.cell (m * 3 + 2) hg hgm).trans y2
  have e1 := (T2.frozen 1 hsb H.out.ne).trans f1
  have eg : ∀ j, w2.frozen? ⟨g, j, none⟩ = false := fun j => (T2.frozen j hg hgm).trans (fg j)
  have hsb2 := Nat.lt_of_lt_of_le hsb T2.size
  have hg2 := Nat.lt_of_lt_of_le hg T2.size
  have hgs' : sb ≠ g := fun e => hgs e.symm
  have HW := Lib.hid T2
  have HO := Lib.hid hown2
  clear c1 c2 r0 r1 r2 y0 y1 y2 f1 fg hrun hD hD1 T2 hown2
  go_wp2_with fail
  have hlen := HLm.out
  have hl4 : (L.take m).length = m := by simp; omega
  have hp2 := H.out.map_turned HW.out HO.out
  obtain ⟨hp3, T3⟩ := pop_HP hp2 hlen
  have hp4 := hp3.below ((Below.refl _ _).alloc (Nat.le_refl _) (.cells #[.int .i64 yk, .int .i64 yn, .int .i64 yv] 91))
  have T4 := T3.then (q := fun _ => False) (Turn.of_below ((Below.refl _ _).alloc (Nat.le_refl _) (.cells #[.int .i64 yk, .int .i64 yn, .int .i64 yv] 91))) (fun _ _ h => h.elim)
  have hp4' : HP (((laidW w2 g m zT).setCell ⟨sb, 1, none⟩ (.slice (some ⟨g, 0, none⟩) m cap)).alloc (.cells #[.int .i64 yk, .int .i64 yn, .int .i64 yv] 91)) base sb bm (.slice (some ⟨g, 0, none⟩) (L.take m).length cap) nx (L.take m) c := by rw [hl4]; exact hp4
  have hyb : (((laidW w2 g m zT).setCell ⟨sb, 1, none⟩ (.slice (some ⟨g, 0, none⟩) m cap)).alloc (.cells #[.int .i64 yk, .int .i64 yn, .int .i64 yv] 91)).cell? ⟨w2.heap.size, 1, none⟩ = some (.int .i64 yn) := by
    have hs4 : ((laidW w2 g m zT).setCell ⟨sb, 1, none⟩ (.slice (some ⟨g, 0, none⟩) m cap)).heap.size = w2.heap.size := by simp [laidW]
    rw [← hs4, World.cell?_alloc_new]; rfl
  have hyl : w2.heap.size < (((laidW w2 g m zT).setCell ⟨sb, 1, none⟩ (.slice (some ⟨g, 0, none⟩) m cap)).alloc (.cells #[.int .i64 yk, .int .i64 yn, .int .i64 yv] 91)).heap.size := by simp [laidW]
  have hbm2 := Nat.lt_of_lt_of_le hbm HW.out.size
  have HB := Lib.hid hyb
  have HT4 := Lib.hid T4
  clear hyb T4 T3 hp2 hp3 hp4
  refine (lay_any hp4' 0 (by omega) ⟨yk, yn, yv⟩ hwy (by omega) (by omega)).mono ?_
  rintro e w5 ⟨rfl, hp5, hm5, t5⟩
  have hyb5 := (t5.cell 1 hyl (by omega)).trans HB.out
  have hyl5 := Nat.lt_of_lt_of_le hyl t5.size
  have em : L.length - 1 = m := by omega
  have hpm := drop_perm (L := L) (by omega)
  have hdd := down_drop hheap ⟨yk, yn, yv⟩
  rw [em, HY.out, HX.out] at hpm
  rw [em] at hdd
  have hwf5 : wfL ((L.take m).set 0 ⟨yk, yn, yv⟩) := fun t ht => hwf t (hpm.mem_iff.1 (List.mem_cons_of_mem _ ht))
  have hl5 : ((L.take m).set 0 ⟨yk, yn, yv⟩).length = m := by rw [List.length_set, hl4]
  have hp5' : HP w5 base sb bm (.slice (some ⟨g, 0, none⟩) ((L.take m).set 0 ⟨yk, yn, yv⟩).length cap) nx ((L.take m).set 0 ⟨yk, yn, yv⟩) (c + 1) := by rw [List.length_set]; exact hp5
  have HM := Lib.hid hpm
  have HT5 := Lib.hid t5
  clear hp4' hp5 hm5 t5 hpm
  go_wp2_with fail
  refine (sink_any hp5' 0 (by omega) hdd hwf5 (by omega) (by omega)).mono ?_
  rintro e w6 ⟨rfl, L6, p6, ih6, hp6, ⟨c6, i6, hi6, hm6⟩, t6⟩
  rw [hl5] at hp6 hi6
  have hl6 : L6.length = m := by rw [p6.length_eq, hl5]
  rw [atL_set _ _ _ _ (by omega), if_pos rfl] at hm6
  have hyb6 := (t6.cell 1 hyl5 (by omega)).trans hyb5
  obtain ⟨D6, hD6, hat6⟩ := hm6
  obtain ⟨cc, hrl, hat, _⟩ := hD6.drew.lookup_int keyedI Try.underlying81 Try.underlying3 (zeroI _) (keyOf_int_mk Try.underlying3 hwy)
  have hcc : (i6 : Int) = cc := by
    have e := hat6.symm.trans hat
    simpa [datI] using e
  subst hcc
  have hp6' : HP w6.drew base sb bm (.slice (some ⟨g, 0, none⟩) L6.length cap) nx L6 (c + 1 + m + 1) := by rw [hl6]; exact hp6.below (Below.refl _ _).drew
  have d2 := hp6.c2
  have hyl6 := Nat.lt_of_lt_of_le hyl5 t6.size
  have hup6 := up_of ih6 i6 (by omega)
  have hwf6 := hwf5.perm p6
  have hi6' : i6 < L6.length := by omega
  have HT6 := Lib.hid t6
  have HP6 := Lib.hid p6
  clear hat hat6 t6 p6 hp6 hD6
  go_wp2_with fail
  go_region_held3 (fun w' => w'.cell? ⟨sb, 2, none⟩ = some (.map (some bm)) ∧ w'.cell? ⟨w2.heap.size, 1, none⟩ = some (.int .i64 yn))
    (first | exact ⟨d2, hyb6⟩ | exact ⟨k2, ky⟩) (first | (go_at_call 54; refine (rise_any hp6' i6 hi6' hup6 hwf6 (by omega) (by omega)).mono ?_; rintro e w7 ⟨rfl, L7, p7, ih7, hp7, t7⟩; have k2 := hp7.c2; have ky := (t7.cell 1 hyl6 (by omega)).trans hyb6))
  go_wp2_with fail
  go_end0
  rw [hl6] at hp7
  have A1 := (HW.out.weaken (q := fun k => k = sb ∨ k = bm ∨ k = g) (fun _ h => .inr (.inl h))).then HT4.out (fun _ _ h => h.elim .inl (fun h => .inr (.inr h)))
  have A2 := ((A1.then HT5.out (fun _ _ h => .inr h)).then HT6.out (fun _ _ h => .inr h)).then (q := fun _ => False) (Turn.of_below (Below.refl _ w6).drew) (fun _ _ h => h.elim)
  exact ⟨rfl, L7, ((p7.trans HP6.out).cons _).trans HM.out, ih7, hp7.mono (by omega), A2.then t7 (fun _ _ h => .inr h)⟩
theorem form2 {w : World} {base e size n : Nat} {v : Value} {xs : List Value} (h : w.ownsRow base e size v n xs) (hn : 0 < n) : ∃ g cap, v = .slice (some ⟨g, 0, none⟩) n cap := by
  rcases h.2 with ⟨_, h0⟩ | ⟨g, cap, _, hv, _⟩
  · omega
  · exact ⟨g, cap, hv⟩
theorem pop_none {w : World} {base sb bm : Nat} {sl : Value} {nx : Int} {c : Nat} (h : HP w base sb bm sl nx [] c) : Calls Try.prog 37 #[.pointer (some ⟨sb, 0, none⟩)] w (Ret (.tuple #[.int .i64 0, .int .i64 0, .int .i64 0, .bool false]) w) := by
  go_enter Try.func37, Try.ntmps37
  go_wp2_with fail
  refine (peek_none h).mono ?_
  rintro e w1 ⟨rfl, rfl⟩
  go_wp2_with fail
  exact bodyPost_ret (v := .tuple #[.int .i64 0, .int .i64 0, .int .i64 0, .bool false]) (by simp [results, Try.results37, go_sem]) rfl ⟨rfl, rfl⟩
/-- Popping: the least. -/
theorem pop_some {w : World} {base sb bm : Nat} {sl : Value} {nx : Int} {L : List Thing} {c : Nat} (h : HP w base sb bm sl nx L c) (hL : 0 < L.length) (hheap : IsHeap L) (hwf : wfL L) (h64 : (L.length : Int) ≤ 1000000000) (hc : c + 3 * L.length + 10 < maxLen) :
    Calls Try.prog 37 #[.pointer (some ⟨sb, 0, none⟩)] w fun e w' => e = .returned (.tuple #[.int .i64 (atL L 0).key, .int .i64 (atL L 0).v, .int .i64 (atL L 0).num, .bool true]) ∧
      ∃ (L' : List Thing) (sl' : Value), (atL L 0 :: L').Perm L ∧ IsHeap L' ∧ HP w' base sb bm sl' nx L' (c + 3 * L.length + 10) ∧ sl'.ownBlock = sl.ownBlock ∧ Turn w w' (fun k => k = sb ∨ k = bm ∨ sl.ownBlock = some k) := by
  obtain ⟨g, cap, rfl⟩ := form2 h.row hL
  go_enter Try.func37, Try.ntmps37
  go_wp2_with fail
  refine (peek_some h hL).mono ?_
  rintro e w1 ⟨rfl, h1⟩
  go_wp2_with fail
  by_cases h2 : L.length = 1
  · refine (drop_one (h.below h1) h2 hwf).mono ?_
    rintro e w2 ⟨rfl, hp2, t2⟩
    go_wp2_with fail
    refine bodyPost_ret (v := .tuple #[.int .i64 (atL L 0).key, .int .i64 (atL L 0).v, .int .i64 (atL L 0).num, .bool true]) (by simp [results, Try.results37, go_sem]) rfl ⟨rfl, [], _, ?_, fun j _ hj => absurd hj (by simp), hp2.mono (by omega), rfl, ?_⟩
    · match L, h2 with
      | [a], _ => exact List.Perm.refl _
    · exact (Turn.of_below h1).then t2 (fun j _ hj => by simpa [Value.ownBlock, eq_comm] using hj)
  · refine (drop_more (m := L.length - 1) (h.below h1) (by omega) (by omega) hheap hwf h64 hc).mono ?_
    rintro e w2 ⟨rfl, L', p', ih', hp2, t2⟩
    go_wp2_with fail
    refine bodyPost_ret (v := .tuple #[.int .i64 (atL L 0).key, .int .i64 (atL L 0).v, .int .i64 (atL L 0).num, .bool true]) (by simp [results, Try.results37, go_sem]) rfl ⟨rfl, L', _, p', ih', hp2, rfl, ?_⟩
    exact (Turn.of_below h1).then t2 (fun j _ hj => by simpa [Value.ownBlock, eq_comm] using hj)
end Go.Proofs.Ytjfdokoigkdciaa
namespace Go.Proofs.Ytjfdokoigkdciaa
open Go.RowKit Go.Maps

theorem infoT : (Try.prog.info? 91).map (fun i => (i.zero, i.size, i.bytes)) = some (some (.agg #[.int .i64 0, .int .i64 0, .int .i64 0]), 3, 24) := by kernel_rfl

theorem push_keep {w w1 : World} {sb : Nat} {u : Value} {o : Obj} {row : Option Nat} (hsb : sb < w.heap.size) (hg : ((w.setCell ⟨sb, 3, none⟩ u).alloc o).grownBy w1 row) (hne : some sb ≠ row) :
    (∀ j, j ≠ 3 → w1.cell? ⟨sb, j, none⟩ = w.cell? ⟨sb, j, none⟩) ∧ w1.cell? ⟨sb, 3, none⟩ = (w.setCell ⟨sb, 3, none⟩ u).cell? ⟨sb, 3, none⟩ ∧ (∀ j, w1.frozen? ⟨sb, j, none⟩ = w.frozen? ⟨sb, j, none⟩) ∧ sb < w1.heap.size := by
  have hs1 : sb < (w.setCell ⟨sb, 3, none⟩ u).heap.size := by simpa using hsb
  have hs2 : sb < ((w.setCell ⟨sb, 3, none⟩ u).alloc o).heap.size := by simp; omega
  have b1 := hg.block sb hs2 hne
  have b2 : ((w.setCell ⟨sb, 3, none⟩ u).alloc o).heap[sb]? = (w.setCell ⟨sb, 3, none⟩ u).heap[sb]? := heap_alloc_old _ _ hs1
  have b3 := b1.trans b2
  refine ⟨fun j hj => ?_, World.cell?_of_block (a := ⟨sb, 3, none⟩) b3, fun j => ?_, Nat.lt_of_lt_of_le hs2 hg.size⟩
  · exact (World.cell?_of_block (a := ⟨sb, j, none⟩) b3).trans (World.cell?_setCell_other _ _ _ _ (fun e => by injection e with _ e2 _; exact hj e2.symm))
  · exact (World.frozen?_of_block (a := ⟨sb, j, none⟩) b3).trans (World.frozen?_setCell _ _ _ _)
set_option maxRecDepth 100000 in
set_option maxHeartbeats 2000000 in
theorem push_any {w : World} {base sb bm : Nat} {sl : Value} {nx : Int} {L : List Thing} {c : Nat} (h : HP w base sb bm sl nx L c) (hheap : IsHeap L) (hwf : wfL L) (key v : Int) (hn0 : 0 ≤ nx) (hn1 : nx ≤ 1000000000) (h64 : (L.length : Int) ≤ 100000000) (hc : c + L.length + 3 < maxLen) :
    Calls Try.prog 48 #[.pointer (some ⟨sb, 0, none⟩), .int .i64 key, .int .i64 v] w fun e w' => e = .returned (.int .i64 nx) ∧
      ∃ (L' : List Thing) (sl' : Value), L'.Perm (⟨key, nx, v⟩ :: L) ∧ IsHeap L' ∧ HP w' base sb bm sl' (nx + 1) L' (c + L.length + 2) ∧ (∀ g, sl'.ownBlock = some g → sl.ownBlock = some g ∨ w.heap.size ≤ g) ∧ Turn w w' (fun k => k = sb ∨ k = bm ∨ sl.ownBlock = some k) := by
  obtain ⟨i0, hi, hz0, hz1, hz2⟩ := info_parts infoT
  have c0 := h.c0
  have c1 := h.c1
  have c3 := h.c3
  have f1 := h.fz 1
  have f3 := h.fz 3
  have hsb := h.lt_sb
  have hw1 : IntKind.i64.wrap (nx + 1) = nx + 1 := IntWalk.i64_in _ (by omega)
  have hw2 : IntKind.i64.wrap ((L.length : Int) + 1 - 1) = (L.length : Int) := by rw [IntWalk.i64_in _ (by omega)]; omega
  have hrow := h.row
  have hbs := h.hb
  have hss := h.hs
  have hrow2 : (w.setCell ⟨sb, 3, none⟩ (.int .i64 (nx + 1))).ownsRow base kT 3 sl L.length (cellsL L) := ownsRow_setCell_below hrow h.hs _
  have hown := fun g hg => h.own_ne (g := g) hg
  have hnew : ∀ o : Obj, ((w.setCell ⟨sb, 3, none⟩ (.int .i64 (nx + 1))).alloc o).heap[w.heap.size]? = some o := fun o => by have := heap_alloc_new (w.setCell ⟨sb, 3, none⟩ (.int .i64 (nx + 1))) o; simpa using this
  have hnes : some sb ≠ sl.ownBlock := fun e => (h.own_ne e.symm).2.2.1 rfl
  have H := Lib.hid h
  clear h
  go_enter Try.func48, Try.ntmps48
  go_wp2_with (at_builtin; refine wpList_append_lies _ (by rfl) _ _ _ (by rfl) base kT i0 (.agg #[.int .i64 0, .int .i64 0, .int .i64 0]) 3 24 Try.underlying82 hi hz0 hz1 hz2 rfl (by omega) _ L.length _ (by rfl) (hrow2.alloc _) ⟨w.heap.size, 0, none⟩ 1 1 [.int .i64 key, .int .i64 nx, .int .i64 v] (by rfl) (by rfl) (World.news_of_block (cs := #[.int .i64 key, .int .i64 nx, .int .i64 v]) (t := 91) (fr := (0, 0)) (hnew _)) (by simp [Value.oneCell']) (by omega) (by simp only [maxLen]; omega) (by omega) (by simp; omega) (w.heap.size + 1) (by simp) ?_; intro g cap w1 hown1 hgrow hat hlt1; obtain ⟨z1, z3, zf, zl⟩ := push_keep hsb hgrow hnes; have q1 := (z1 1 (by omega)).trans c1; have qf := (zf 1).trans f1)
  have hgne : g ≠ sb ∧ g ≠ bm := by
    have := (hown1.lt g rfl).1
    have := H.out.hm
    omega
  have hD0 := H.out.map
  have hbmne : some bm ≠ sl.ownBlock := fun e => (H.out.own_ne e.symm).2.2.2 rfl
  have bb : (w1.setCell ⟨sb, 1, none⟩ (.slice (some ⟨g, 0, none⟩) (L.length + 1) cap)).heap[bm]? = w.heap[bm]? := by
    rw [heap_setCell_other _ _ bm _ (fun e => H.out.ne e.symm)]
    rw [hgrow.block bm (by simp; have := H.out.lt_bm; omega) hbmne, heap_alloc_old _ _ (by simpa using H.out.lt_bm), heap_setCell_other _ _ bm _ (fun e => H.out.ne e.symm)]
  have hlen : (L ++ [(⟨key, nx, v⟩ : Thing)]).length = L.length + 1 := by simp
  have hp1 : HP (w1.setCell ⟨sb, 1, none⟩ (.slice (some ⟨g, 0, none⟩) (L.length + 1) cap)) base sb bm (.slice (some ⟨g, 0, none⟩) (L ++ [(⟨key, nx, v⟩ : Thing)]).length cap) (nx + 1) (L ++ [(⟨key, nx, v⟩ : Thing)]) c := {
    c0 := (World.cell?_setCell_other _ _ _ _ (by simp)).trans ((z1 0 (by omega)).trans H.out.c0)
    c1 := by rw [hlen]; exact World.cell?_setCell_same _ _ _ q1
    c2 := (World.cell?_setCell_other _ _ _ _ (by simp)).trans ((z1 2 (by omega)).trans H.out.c2)
    c3 := (World.cell?_setCell_other _ _ _ _ (by simp)).trans (z3.trans (World.cell?_setCell_same _ _ _ H.out.c3))
    fz := fun o => (World.frozen?_setCell _ _ _ _).trans ((zf o).trans (H.out.fz o))
    row := by
      rw [hlen, cellsL_append]
      exact ownsRow_setCell_below hown1 H.out.hs _
    map := by obtain ⟨D, hD⟩ := hD0; exact ⟨D, map_block hD bb⟩
    hs := H.out.hs
    hm := H.out.hm
    ne := H.out.ne
    hb := by simp; have := hgrow.size; simp at this; omega }
  have T1 : Turn w (w1.setCell ⟨sb, 1, none⟩ (.slice (some ⟨g, 0, none⟩) (L.length + 1) cap)) (fun k => k = sb ∨ k = bm ∨ sl.ownBlock = some k) :=
    (((Turn.of_setCell (a := ⟨sb, 3, none⟩) (u := .int .i64 (nx + 1)) (.inl rfl)).then (q := fun _ => False) (Turn.of_below ((Below.refl _ _).alloc (Nat.le_refl _) _)) (fun _ _ h => h.elim)).then (q := fun k => k = sb ∨ k = bm ∨ sl.ownBlock = some k)
      ⟨hgrow.os, hgrow.tape, hgrow.output, hgrow.size, fun k hk hn => hgrow.block k hk (fun e => hn (.inr (.inr e.symm)))⟩ (fun _ _ h => h)).then (q := fun k => k = sb) (Turn.of_setCell (a := ⟨sb, 1, none⟩) rfl) (fun _ _ h => .inl h)
  have hwf1 : wfL (L ++ [(⟨key, nx, v⟩ : Thing)]) := by
    intro t ht
    rcases List.mem_append.1 ht with h1 | h1
    · exact hwf t h1
    · have e := List.mem_singleton.1 h1
      subst e
      exact WalkArith.wf_i64 ⟨by show _ ≤ nx; omega, by show nx ≤ _; omega⟩
  refine (rise_any hp1 L.length (by omega) (up_push hheap _) hwf1 (by omega) (by omega)).mono ?_
  rintro e w3 ⟨rfl, L', p', ih', hp', t'⟩
  go_wp2_with fail
  go_ret
  rw [hlen] at hp'
  refine ⟨rfl, L', _, p'.trans (List.perm_append_singleton _ _), ih', hp'.mono (by omega), ?_, ?_⟩
  · intro g' hg'
    have e : g = g' := by simpa [Value.ownBlock] using hg'
    subst e
    rcases hat with h1 | h1
    · exact .inl h1
    · right; omega
  · refine T1.then t' (fun j hj hjg => ?_)
    rcases hjg with rfl | rfl
    · exact .inr (.inl rfl)
    · rcases hat with h1 | h1
      · exact .inr (.inr h1)
      · omega
end Go.Proofs.Ytjfdokoigkdciaa
