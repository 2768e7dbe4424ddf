/- The heap: dropping the first of many, popping; walked. -/
import Derived.Test.YtefijgdbnjmifaaHeapF
namespace Go.Proofs.Ytefijgdbnjmifaa
open Go.RowKit Go.Maps

set_option maxRecDepth 100000 in
set_option maxHeartbeats 2000000 in
theorem drop_more {w : World} {base sb bm g cap : Nat} {nx : Int} {L : List Thing} {c m : Nat} (h : HP w base sb bm (.slice (some ⟨g, 0, none⟩) L.length cap) nx L c) (hL : L.length = m + 1) (hm0 : 0 < m) (hheap : IsHeap L) (hwf : wfL L) (h64 : (L.length : Int) ≤ 1000000000) (hc : c + 3 * L.length + 10 < maxLen) :
    Calls Try.prog 59 #[.pointer (some ⟨sb, 0, none⟩), .int .i64 0] w fun e w' => e = .returned (.tuple #[]) ∧
      ∃ L' : List Thing, (atL L 0 :: L').Perm L ∧ IsHeap L' ∧ HP w' base sb bm (.slice (some ⟨g, 0, none⟩) m cap) nx L' (c + 3 * L.length + 10) ∧ Turn w w' (fun k => k = sb ∨ k = bm ∨ k = g) := by
  have c1 := h.c1
  have c2 := h.c2
  have f1 := h.fz 1
  obtain ⟨r0, r1, r2⟩ := h.cells rfl 0 (by omega)
  simp only [Nat.zero_mul, Nat.zero_add] at r0 r1 r2
  obtain ⟨y0, y1, y2⟩ := h.cells rfl m (by omega)
  have hcap : L.length ≤ cap := by
    rcases h.row.2 with ⟨h1, _⟩ | ⟨g', cap', cur, hv, _, _, h2, _⟩
    · cases h1
    · injection hv with _ _ e3; omega
  have hcap2 : cap ≤ 9223372036854775807 := by
    rcases h.row.2 with ⟨h1, _⟩ | ⟨g', cap', cur, hv, _, _, _, h2, _⟩
    · cases h1
    · injection hv with _ _ e3; simp only [maxLen] at h2; omega
  have hwx := hwf.at (i := 0) (by omega)
  have hwy := hwf.at (i := m) (by omega)
  generalize hx : atL L 0 = x at *
  obtain ⟨xk, xn, xv⟩ := x
  generalize hy : atL L m = y at *
  obtain ⟨yk, yn, yv⟩ := y
  simp only at r0 r1 r2 hwx y0 y1 y2 hwy
  have hsb := h.lt_sb
  have hbm := h.lt_bm
  obtain ⟨hgb, hg, hgs, hgm⟩ := h.own_ne (g := g) rfl
  have fg := h.row.frozenAt
  obtain ⟨D, hD⟩ := h.map
  have H := Lib.hid h
  have HX := Lib.hid hx
  have HY := Lib.hid hy
  have HLm := Lib.hid hL
  obtain ⟨n, hn⟩ : ∃ n, n = L.length := ⟨_, rfl⟩
  rw [← hn] at c1 hcap
  have hw1 : IntKind.i64.wrap ((n : Int) - 1) = (m : Int) := by rw [IntWalk.i64_in _ (by omega)]; omega
  have hmn : m < n := by omega
  have hn0 : (0 : Int) < (n : Int) := by omega
  have hmn2 : (m : Int) < (n : Int) := by omega
  have hmc : (m : Int) ≤ (cap : Int) := by omega
  have hm1 : ((0 : Int) == (m : Int)) = false := by rw [beq_eq_false_iff_ne]; omega
  have HN := Lib.hid hn
  clear h hx hy hL hn
  go_enter Try.func59, Try.ntmps59
  go_wp2
  have hD1 := ((hD.alloc (.cells #[.int .i64 xk, .int .i64 xn, .int .i64 xv] 115)).drew)
  obtain ⟨w2, hrun, hown2, hturn2⟩ := hD1.drop keyedI Try.underlying91 (keyOf_int_mk Try.underlying3 hwx) 0
  simp only [kI] at hrun
  go_region
  have T2 : Turn w w2 (fun k => k = bm) := (Turn.of_below (p := fun k => k = bm) (((Below.refl _ w).alloc (Nat.le_refl _) _).drew)).then (Turn.of_map (p := fun k => k = bm) hturn2 rfl) (fun _ _ h => h)
  have d1 := (T2.cell 1 hsb H.out.ne).trans c1
  have s0 := (T2.cell (m * 3) hg hgm).trans y0
  have s1 := (T2.cell (m * 3 + 1) hg hgm).trans y1
  have s2 := (T2.cell (m * 3 + 2) hg hgm).trans y2
  have e1 := (T2.frozen 1 hsb H.out.ne).trans f1
  have eg : ∀ j, w2.frozen? ⟨g, j, none⟩ = false := fun j => (T2.frozen j hg hgm).trans (fg j)
  have hsb2 := Nat.lt_of_lt_of_le hsb T2.size
  have hg2 := Nat.lt_of_lt_of_le hg T2.size
  have hgs' : sb ≠ g := fun e => hgs e.symm
  have HW := Lib.hid T2
  have HO := Lib.hid hown2
  clear c1 c2 r0 r1 r2 y0 y1 y2 f1 fg hrun hD hD1 T2 hown2
  go_wp2_with fail
  have hlen := HLm.out
  have hl4 : (L.take m).length = m := by simp; omega
  have hp2 := H.out.map_turned HW.out HO.out
  obtain ⟨hp3, T3⟩ := pop_HP hp2 hlen
  have hp4 := hp3.below ((Below.refl _ _).alloc (Nat.le_refl _) (.cells #[.int .i64 yk, .int .i64 yn, .int .i64 yv] 115))
  have T4 := T3.then (q := fun _ => False) (Turn.of_below ((Below.refl _ _).alloc (Nat.le_refl _) (.cells #[.int .i64 yk, .int .i64 yn, .int .i64 yv] 115))) (fun _ _ h => h.elim)
  have hp4' : HP (((laidW w2 g m zT).setCell ⟨sb, 1, none⟩ (.slice (some ⟨g, 0, none⟩) m cap)).alloc (.cells #[.int .i64 yk, .int .i64 yn, .int .i64 yv] 115)) base sb bm (.slice (some ⟨g, 0, none⟩) (L.take m).length cap) nx (L.take m) c := by rw [hl4]; exact hp4
  have hyb : (((laidW w2 g m zT).setCell ⟨sb, 1, none⟩ (.slice (some ⟨g, 0, none⟩) m cap)).alloc (.cells #[.int .i64 yk, .int .i64 yn, .int .i64 yv] 115)).cell? ⟨w2.heap.size, 1, none⟩ = some (.int .i64 yn) := by
    have hs4 : ((laidW w2 g m zT).setCell ⟨sb, 1, none⟩ (.slice (some ⟨g, 0, none⟩) m cap)).heap.size = w2.heap.size := by simp [laidW]
    rw [← hs4, World.cell?_alloc_new]; rfl
  have hyl : w2.heap.size < (((laidW w2 g m zT).setCell ⟨sb, 1, none⟩ (.slice (some ⟨g, 0, none⟩) m cap)).alloc (.cells #[.int .i64 yk, .int .i64 yn, .int .i64 yv] 115)).heap.size := by simp [laidW]
  have hbm2 := Nat.lt_of_lt_of_le hbm HW.out.size
  have HB := Lib.hid hyb
  have HT4 := Lib.hid T4
  clear hyb T4 T3 hp2 hp3 hp4
  refine (lay_any hp4' 0 (by omega) ⟨yk, yn, yv⟩ hwy (by omega) (by omega)).mono ?_
  rintro e w5 ⟨rfl, hp5, hm5, t5⟩
  have hyb5 := (t5.cell 1 hyl (by omega)).trans HB.out
  have hyl5 := Nat.lt_of_lt_of_le hyl t5.size
  have em : L.length - 1 = m := by omega
  have hpm := drop_perm (L := L) (by omega)
  have hdd := down_drop hheap ⟨yk, yn, yv⟩
  rw [em, HY.out, HX.out] at hpm
  rw [em] at hdd
  have hwf5 : wfL ((L.take m).set 0 ⟨yk, yn, yv⟩) := fun t ht => hwf t (hpm.mem_iff.1 (List.mem_cons_of_mem _ ht))
  have hl5 : ((L.take m).set 0 ⟨yk, yn, yv⟩).length = m := by rw [List.length_set, hl4]
  have hp5' : HP w5 base sb bm (.slice (some ⟨g, 0, none⟩) ((L.take m).set 0 ⟨yk, yn, yv⟩).length cap) nx ((L.take m).set 0 ⟨yk, yn, yv⟩) (c + 1) := by rw [List.length_set]; exact hp5
  have HM := Lib.hid hpm
  have HT5 := Lib.hid t5
  clear hp4' hp5 hm5 t5 hpm
  go_wp2_with fail
  refine (sink_any hp5' 0 (by omega) hdd hwf5 (by omega) (by omega)).mono ?_
  rintro e w6 ⟨rfl, L6, p6, ih6, hp6, ⟨c6, i6, hi6, hm6⟩, t6⟩
  rw [hl5] at hp6 hi6
  have hl6 : L6.length = m := by rw [p6.length_eq, hl5]
  rw [atL_set _ _ _ _ (by omega), if_pos rfl] at hm6
  have hyb6 := (t6.cell 1 hyl5 (by omega)).trans hyb5
  obtain ⟨D6, hD6, hat6⟩ := hm6
  obtain ⟨cc, hrl, hat, _⟩ := hD6.drew.lookup_int keyedI Try.underlying91 Try.underlying3 (zeroI _) (keyOf_int_mk Try.underlying3 hwy)
  have hcc : (i6 : Int) = cc := by
    have e := hat6.symm.trans hat
    simpa [datI] using e
  subst hcc
  have hp6' : HP w6.drew base sb bm (.slice (some ⟨g, 0, none⟩) L6.length cap) nx L6 (c + 1 + m + 1) := by rw [hl6]; exact hp6.below (Below.refl _ _).drew
  have d2 := hp6.c2
  have hyl6 := Nat.lt_of_lt_of_le hyl5 t6.size
  have hup6 := up_of ih6 i6 (by omega)
  have hwf6 := hwf5.perm p6
  have hi6' : i6 < L6.length := by omega
  have HT6 := Lib.hid t6
  have HP6 := Lib.hid p6
  clear hat hat6 t6 p6 hp6 hD6
  go_wp2_with fail
  go_region_held3 (fun w' => w'.cell? ⟨sb, 2, none⟩ = some (.map (some bm)) ∧ w'.cell? ⟨w2.heap.size, 1, none⟩ = some (.int .i64 yn))
    (first | exact ⟨d2, hyb6⟩ | exact ⟨k2, ky⟩) (first | (go_at_call 62; refine (rise_any hp6' i6 hi6' hup6 hwf6 (by omega) (by omega)).mono ?_; rintro e w7 ⟨rfl, L7, p7, ih7, hp7, t7⟩; have k2 := hp7.c2; have ky := (t7.cell 1 hyl6 (by omega)).trans hyb6))
  go_wp2_with fail
  go_end0
  rw [hl6] at hp7
  have A1 := (HW.out.weaken (q := fun k => k = sb ∨ k = bm ∨ k = g) (fun _ h => .inr (.inl h))).then HT4.out (fun _ _ h => h.elim .inl (fun h => .inr (.inr h)))
  have A2 := ((A1.then HT5.out (fun _ _ h => .inr h)).then HT6.out (fun _ _ h => .inr h)).then (q := fun _ => False) (Turn.of_below (Below.refl _ w6).drew) (fun _ _ h => h.elim)
  exact ⟨rfl, L7, ((p7.trans HP6.out).cons _).trans HM.out, ih7, hp7.mono (by omega), A2.then t7 (fun _ _ h => .inr h)⟩
theorem form2 {w : World} {base e size n : Nat} {v : Value} {xs : List Value} (h : w.ownsRow base e size v n xs) (hn : 0 < n) : ∃ g cap, v = .slice (some ⟨g, 0, none⟩) n cap := by
  rcases h.2 with ⟨_, h0⟩ | ⟨g, cap, _, hv, _⟩
  · omega
  · exact ⟨g, cap, hv⟩
theorem pop_none {w : World} {base sb bm : Nat} {sl : Value} {nx : Int} {c : Nat} (h : HP w base sb bm sl nx [] c) : Calls Try.prog 47 #[.pointer (some ⟨sb, 0, none⟩)] w (Ret (.tuple #[.int .i64 0, .int .i64 0, .int .i64 0, .bool false]) w) := by
  go_enter Try.func47, Try.ntmps47
  go_wp2_with fail
  refine (peek_none h).mono ?_
  rintro e w1 ⟨rfl, rfl⟩
  go_wp2_with fail
  exact bodyPost_ret (v := .tuple #[.int .i64 0, .int .i64 0, .int .i64 0, .bool false]) (by simp [results, Try.results47, go_sem]) rfl ⟨rfl, rfl⟩
/-- Popping: the least. -/
theorem pop_some {w : World} {base sb bm : Nat} {sl : Value} {nx : Int} {L : List Thing} {c : Nat} (h : HP w base sb bm sl nx L c) (hL : 0 < L.length) (hheap : IsHeap L) (hwf : wfL L) (h64 : (L.length : Int) ≤ 1000000000) (hc : c + 3 * L.length + 10 < maxLen) :
    Calls Try.prog 47 #[.pointer (some ⟨sb, 0, none⟩)] w fun e w' => e = .returned (.tuple #[.int .i64 (atL L 0).key, .int .i64 (atL L 0).v, .int .i64 (atL L 0).num, .bool true]) ∧
      ∃ (L' : List Thing) (sl' : Value), (atL L 0 :: L').Perm L ∧ IsHeap L' ∧ HP w' base sb bm sl' nx L' (c + 3 * L.length + 10) ∧ sl'.ownBlock = sl.ownBlock ∧ Turn w w' (fun k => k = sb ∨ k = bm ∨ sl.ownBlock = some k) := by
  obtain ⟨g, cap, rfl⟩ := form2 h.row hL
  go_enter Try.func47, Try.ntmps47
  go_wp2_with fail
  refine (peek_some h hL).mono ?_
  rintro e w1 ⟨rfl, h1⟩
  go_wp2_with fail
  by_cases h2 : L.length = 1
  · refine (drop_one (h.below h1) h2 hwf).mono ?_
    rintro e w2 ⟨rfl, hp2, t2⟩
    go_wp2_with fail
    refine bodyPost_ret (v := .tuple #[.int .i64 (atL L 0).key, .int .i64 (atL L 0).v, .int .i64 (atL L 0).num, .bool true]) (by simp [results, Try.results47, go_sem]) rfl ⟨rfl, [], _, ?_, fun j _ hj => absurd hj (by simp), hp2.mono (by omega), rfl, ?_⟩
    · match L, h2 with
      | [a], _ => exact List.Perm.refl _
    · exact (Turn.of_below h1).then t2 (fun j _ hj => by simpa [Value.ownBlock, eq_comm] using hj)
  · refine (drop_more (m := L.length - 1) (h.below h1) (by omega) (by omega) hheap hwf h64 hc).mono ?_
    rintro e w2 ⟨rfl, L', p', ih', hp2, t2⟩
    go_wp2_with fail
    refine bodyPost_ret (v := .tuple #[.int .i64 (atL L 0).key, .int .i64 (atL L 0).v, .int .i64 (atL L 0).num, .bool true]) (by simp [results, Try.results47, go_sem]) rfl ⟨rfl, L', _, p', ih', hp2, rfl, ?_⟩
    exact (Turn.of_below h1).then t2 (fun j _ hj => by simpa [Value.ownBlock, eq_comm] using hj)
end Go.Proofs.Ytefijgdbnjmifaa
