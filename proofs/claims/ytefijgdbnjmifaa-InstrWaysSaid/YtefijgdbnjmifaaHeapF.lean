/- The heap: dropping the first, walked. -/
import Derived.Test.YtefijgdbnjmifaaHeapE
namespace Go.Proofs.Ytefijgdbnjmifaa
open Go.RowKit Go.Maps

theorem Turn.weaken {w w' : World} {p q : Nat → Prop} (h : Turn w w' p) (k : ∀ j, p j → q j) : Turn w w' q := ⟨h.1, h.2.1, h.2.2.1, h.size, fun j hj hn => h.block hj (fun e => hn (k j e))⟩
theorem Turn.of_setCell {w : World} {a : Addr} {u : Value} {p : Nat → Prop} (hp : p a.block) : Turn w (w.setCell a u) p :=
  ⟨rfl, rfl, rfl, by simp, fun k _ hn => heap_setCell_other w a k u (fun e => hn (e ▸ hp))⟩
theorem HP.map_turned {w w' : World} {base sb bm : Nat} {sl : Value} {nx : Int} {L : List Thing} {c c' : Nat} {D : MapD} (h : HP w base sb bm sl nx L c) (t : Turn w w' (fun k => k = bm)) (hm : w'.ownsMap Try.prog kI (plainElem Try.prog kI) bm c' D) : HP w' base sb bm sl nx L c' where
  c0 := (t.cell 0 h.lt_sb h.ne).trans h.c0
  c1 := (t.cell 1 h.lt_sb h.ne).trans h.c1
  c2 := (t.cell 2 h.lt_sb h.ne).trans h.c2
  c3 := (t.cell 3 h.lt_sb h.ne).trans h.c3
  fz := fun o => (t.frozen o h.lt_sb h.ne).trans (h.fz o)
  row := own_block h.row fun _ hg => t.block (h.own_ne hg).2.1 (h.own_ne hg).2.2.2
  map := ⟨D, hm⟩
  hs := h.hs
  hm := h.hm
  ne := h.ne
  hb := Nat.le_trans h.hb t.size
theorem pop_HP {w : World} {base sb bm g cap : Nat} {nx : Int} {L : List Thing} {c m : Nat} (h : HP w base sb bm (.slice (some ⟨g, 0, none⟩) L.length cap) nx L c) (hL : L.length = m + 1) :
    HP ((laidW w g m zT).setCell ⟨sb, 1, none⟩ (.slice (some ⟨g, 0, none⟩) m cap)) base sb bm (.slice (some ⟨g, 0, none⟩) m cap) nx (L.take m) c ∧ Turn w ((laidW w g m zT).setCell ⟨sb, 1, none⟩ (.slice (some ⟨g, 0, none⟩) m cap)) (fun k => k = sb ∨ k = g) := by
  obtain ⟨hrow, hgr⟩ := laidW_row h.row (show m < L.length by omega) zT
  obtain ⟨hgb, hg, hgs, hgm⟩ := h.own_ne (g := g) rfl
  have T1 : Turn w (laidW w g m zT) (fun k => k = sb ∨ k = g) := Turn.of_grown hgr (.inr rfl)
  have T1' : Turn w (laidW w g m zT) (fun k => k = g) := Turn.of_grown hgr rfl
  have T2 := T1.then (q := fun k => k = sb) (Turn.of_setCell (a := ⟨sb, 1, none⟩) (u := .slice (some ⟨g, 0, none⟩) m cap) (p := fun k => k = sb) rfl) (fun _ _ h => .inl h)
  have ns : ¬ sb = g := fun e => hgs e.symm
  have k0 : ∀ o, (laidW w g m zT).cell? ⟨sb, o, none⟩ = w.cell? ⟨sb, o, none⟩ := fun o => T1'.cell o h.lt_sb ns
  have kf : ∀ o, (laidW w g m zT).frozen? ⟨sb, o, none⟩ = w.frozen? ⟨sb, o, none⟩ := fun o => T1'.frozen o h.lt_sb ns
  have ko : ∀ o, o ≠ 1 → ((laidW w g m zT).setCell ⟨sb, 1, none⟩ (.slice (some ⟨g, 0, none⟩) m cap)).cell? ⟨sb, o, none⟩ = w.cell? ⟨sb, o, none⟩ := fun o ho => (World.cell?_setCell_other _ _ _ _ (fun e => by injection e with _ e2 _; exact ho e2.symm)).trans (k0 o)
  have e : cellsL (L.set m zT) = cellsL (L.take m) ++ cellsL [zT] := by
    rw [← cellsL_append]
    congr 1
    rw [List.set_eq_take_append_cons_drop, if_pos (by omega), List.drop_of_length_le (by omega)]
  have hl : (L.take m).length = m := by simp; omega
  refine ⟨?_, T2⟩
  exact {
    c0 := (ko 0 (by omega)).trans h.c0
    c1 := World.cell?_setCell_same _ _ _ ((k0 1).trans h.c1)
    c2 := (ko 2 (by omega)).trans h.c2
    c3 := (ko 3 (by omega)).trans h.c3
    fz := fun o => (World.frozen?_setCell _ _ _ _).trans ((kf o).trans (h.fz o))
    row := by
      rw [hl]
      have r1 := ownsRow_setCell_other hrow (a := ⟨sb, 1, none⟩) (by simpa [Value.ownBlock] using hgs) (.slice (some ⟨g, 0, none⟩) m cap)
      rw [e, hL] at r1
      exact ownsRow_pop (by rw [cellsL_length, hl]) r1
    map := by
      obtain ⟨D, hD⟩ := h.map
      exact ⟨D, map_block hD (T2.block h.lt_bm (fun hh => hh.elim (fun e => h.ne e.symm) (fun e => hgm e.symm)))⟩
    hs := h.hs
    hm := h.hm
    ne := h.ne
    hb := Nat.le_trans h.hb T2.size }

theorem drop_one {w : World} {base sb bm g cap : Nat} {nx : Int} {L : List Thing} {c : Nat} (h : HP w base sb bm (.slice (some ⟨g, 0, none⟩) L.length cap) nx L c) (hL : L.length = 1) (hwf : wfL L) :
    Calls Try.prog 59 #[.pointer (some ⟨sb, 0, none⟩), .int .i64 0] w fun e w' => e = .returned (.tuple #[]) ∧
      HP w' base sb bm (.slice (some ⟨g, 0, none⟩) 0 cap) nx [] c ∧ Turn w w' (fun k => k = sb ∨ k = bm ∨ k = g) := by
  have c1 := h.c1
  have c2 := h.c2
  have f1 := h.fz 1
  rw [hL] at c1
  obtain ⟨r0, r1, r2⟩ := h.cells rfl 0 (by omega)
  simp only [Nat.zero_mul, Nat.zero_add] at r0 r1 r2
  have hwx := hwf.at (i := 0) (by omega)
  generalize hx : atL L 0 = x at *
  obtain ⟨xk, xn, xv⟩ := x
  simp only at r0 r1 r2 hwx
  have hsb := h.lt_sb
  have hbm := h.lt_bm
  obtain ⟨hgb, hg, hgs, hgm⟩ := h.own_ne (g := g) rfl
  have fg := h.row.frozenAt
  obtain ⟨D, hD⟩ := h.map
  have H := Lib.hid h
  clear h hx
  go_enter Try.func59, Try.ntmps59
  go_wp2
  have hD1 := ((hD.alloc (.cells #[.int .i64 xk, .int .i64 xn, .int .i64 xv] 115)).drew)
  obtain ⟨w2, hrun, hown2, hturn2⟩ := hD1.drop keyedI Try.underlying91 (keyOf_int_mk Try.underlying3 hwx) 0
  simp only [kI] at hrun
  go_region
  have T2 : Turn w w2 (fun k => k = bm) := (Turn.of_below (p := fun k => k = bm) (((Below.refl _ w).alloc (Nat.le_refl _) _).drew)).then (Turn.of_map (p := fun k => k = bm) hturn2 rfl) (fun _ _ h => h)
  have d1 := (T2.cell 1 hsb H.out.ne).trans c1
  have s0 := (T2.cell 0 hg hgm).trans r0
  have s1 := (T2.cell 1 hg hgm).trans r1
  have s2 := (T2.cell 2 hg hgm).trans r2
  have e1 := (T2.frozen 1 hsb H.out.ne).trans f1
  have eg : ∀ j, w2.frozen? ⟨g, j, none⟩ = false := fun j => (T2.frozen j hg hgm).trans (fg j)
  have hsb2 := Nat.lt_of_lt_of_le hsb T2.size
  have hg2 := Nat.lt_of_lt_of_le hg T2.size
  have hgs' : sb ≠ g := fun e => hgs e.symm
  have HW := Lib.hid T2
  have HO := Lib.hid hown2
  clear c1 c2 r0 r1 r2 f1 fg hrun hD hD1 T2 hown2
  go_wp2
  (try simp only [Exit.inBlock, Exit.then])
  refine bodyPost_ret (results_none rfl _ _ _) rfl ?_
  have hp2 := H.out.map_turned HW.out HO.out
  obtain ⟨hp3, T3⟩ := pop_HP (m := 0) hp2 hL
  refine ⟨rfl, ?_, ?_⟩
  · rw [List.take_zero] at hp3
    exact hp3.below ((Below.refl _ _).alloc (Nat.le_refl _) _)
  · exact (((HW.out.weaken (fun _ h => .inr (.inl h))).then (p := fun k => k = sb ∨ k = bm ∨ k = g) (q := fun k => k = sb ∨ k = g) T3 (fun _ _ h => h.elim .inl (fun h => .inr (.inr h))))).then (q := fun _ => False) (Turn.of_below ((Below.refl _ _).alloc (Nat.le_refl _) _)) (fun _ _ h => h.elim)
end Go.Proofs.Ytefijgdbnjmifaa
