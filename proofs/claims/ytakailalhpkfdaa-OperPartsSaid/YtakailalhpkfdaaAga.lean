/- Two values of one node, of one kind: against, Order, Same, walked. -/
import Derived.Test.YtakailalhpkfdaaCmp
import Derived.BigRegion
import Derived.RegionTactic
import Derived.Deep.RegionHeld3
import Derived.Deep.CutRange
import Derived.Deep.RegionWith
import Derived.Deep.CutBlock
namespace Go.Proofs.Ytakailalhpkfdaa
open Go.RowKit

theorem still_of {f : FuncId} {args : Array Value} {v : Value} {w : World} (h : Calls Try.prog f args w (Ret v w)) : Calls Try.prog f args w (fun e w' => e = .returned v ∧ w' = w) := h.mono fun _ _ ⟨h1, h2⟩ => ⟨h1, h2.symm⟩
theorem new_two (w : World) (x y : Node) (t : TypeId) :
    NodeAt ((w.alloc (.cells #[.int .u8 (x.kind : Int), .int .i64 x.kids, .int .i64 x.int, .string x.text, .complex .f64 x.re x.im] t)).alloc (.cells #[.int .u8 (y.kind : Int), .int .i64 y.kids, .int .i64 y.int, .string y.text, .complex .f64 y.re y.im] t)).drew w.heap.size 0 x ∧
    NodeAt ((w.alloc (.cells #[.int .u8 (x.kind : Int), .int .i64 x.kids, .int .i64 x.int, .string x.text, .complex .f64 x.re x.im] t)).alloc (.cells #[.int .u8 (y.kind : Int), .int .i64 y.kids, .int .i64 y.int, .string y.text, .complex .f64 y.re y.im] t)).drew (w.heap.size + 1) 0 y := by
  constructor
  · exact (node_new w w.heap.size rfl x t).below (B := w.heap.size + 1) (((Below.refl (w.heap.size + 1) (w.alloc (.cells #[.int .u8 (x.kind : Int), .int .i64 x.kids, .int .i64 x.int, .string x.text, .complex .f64 x.re x.im] t))).alloc (by simp) _).drew) (by omega)
  · exact (node_new (w.alloc (.cells #[.int .u8 (x.kind : Int), .int .i64 x.kids, .int .i64 x.int, .string x.text, .complex .f64 x.re x.im] t)) (w.heap.size + 1) (by simp) y t).below (B := w.heap.size + 2) ((Below.refl _ _).drew) (by omega)
theorem scomp_any (s t : ByteArray) (w : World) : Calls Try.prog 67 #[.string s, .string t] w (Ret (.int .i64 (Lib.compareBytes s.data.toList t.data.toList)) w) :=
  (Try.strings_Compare s t w).mono fun _ _ ⟨h1, h2⟩ => ⟨h1, h2.symm⟩
theorem or_six (g cap : Nat) (c d : Int) (w : World) (h0 : w.cell? ⟨g, 0, none⟩ = some (.int .i64 0)) (h1 : w.cell? ⟨g, 1, none⟩ = some (.int .i64 0)) (h2 : w.cell? ⟨g, 2, none⟩ = some (.int .i64 c)) (h3 : w.cell? ⟨g, 3, none⟩ = some (.int .i64 d)) (h4 : w.cell? ⟨g, 4, none⟩ = some (.int .i64 0)) (h5 : w.cell? ⟨g, 5, none⟩ = some (.int .i64 0)) :
    Calls Try.prog 63 #[.slice (some ⟨g, 0, none⟩) 6 cap] w (Ret (.int .i64 (orR c d)) w) :=
  or_any g cap c d w fun j hj => by
    match j, hj with
    | 0, _ => exact h0
    | 1, _ => exact h1
    | 2, _ => exact h2
    | 3, _ => exact h3
    | 4, _ => exact h4
    | 5, _ => exact h5
/-- What two nodes of one kind are together. -/
def agaV (i j : Int) (s t : ByteArray) : Int := orR (cmpI i j) (Lib.compareBytes s.data.toList t.data.toList)
set_option maxRecDepth 100000 in
set_option maxHeartbeats 2000000 in
theorem against_any {b1 c1 b2 c2 : Nat} {kd : Nat} {k2 : Int} {i j : Int} {s t : ByteArray} {w : World}
    (x0 : w.cell? ⟨b1, 0, none⟩ = some (.int .u8 (kd : Int))) (x1 : w.cell? ⟨b1, 1, none⟩ = some (.int .i64 k2)) (x2 : w.cell? ⟨b1, 2, none⟩ = some (.int .i64 i)) (x3 : w.cell? ⟨b1, 3, none⟩ = some (.string s)) (x4 : w.cell? ⟨b1, 4, none⟩ = some (.complex .f64 0 0))
    (y0 : w.cell? ⟨b2, 0, none⟩ = some (.int .u8 (kd : Int))) (y1 : w.cell? ⟨b2, 1, none⟩ = some (.int .i64 k2)) (y2 : w.cell? ⟨b2, 2, none⟩ = some (.int .i64 j)) (y3 : w.cell? ⟨b2, 3, none⟩ = some (.string t)) (y4 : w.cell? ⟨b2, 4, none⟩ = some (.complex .f64 0 0)) :
    Calls Try.prog 45 #[.slice (some ⟨b1, 0, none⟩) 1 c1, .slice (some ⟨b2, 0, none⟩) 1 c2] w (RetB (.int .i64 (agaV i j s t)) w) := by
  have hsc := store_cx
  have hl1 := World.block_lt_of_cell? w _ x0
  have hl2 := World.block_lt_of_cell? w _ y0
  have HS := Lib.hid (show ∀ w', Below w.heap.size w w' → w'.cell? ⟨b1, 0, none⟩ = some (.int .u8 (kd : Int)) ∧ w'.cell? ⟨b1, 1, none⟩ = some (.int .i64 k2) ∧ w'.cell? ⟨b1, 2, none⟩ = some (.int .i64 i) ∧ w'.cell? ⟨b1, 3, none⟩ = some (.string s) ∧ w'.cell? ⟨b1, 4, none⟩ = some (.complex .f64 0 0) ∧ w'.cell? ⟨b2, 0, none⟩ = some (.int .u8 (kd : Int)) ∧ w'.cell? ⟨b2, 1, none⟩ = some (.int .i64 k2) ∧ w'.cell? ⟨b2, 2, none⟩ = some (.int .i64 j) ∧ w'.cell? ⟨b2, 3, none⟩ = some (.string t) ∧ w'.cell? ⟨b2, 4, none⟩ = some (.complex .f64 0 0) from fun w' hb =>
    ⟨(hb.cell (p := ⟨b1, 0, none⟩) hl1).trans x0, (hb.cell (p := ⟨b1, 1, none⟩) hl1).trans x1, (hb.cell (p := ⟨b1, 2, none⟩) hl1).trans x2, (hb.cell (p := ⟨b1, 3, none⟩) hl1).trans x3, (hb.cell (p := ⟨b1, 4, none⟩) hl1).trans x4,
      (hb.cell (p := ⟨b2, 0, none⟩) hl2).trans y0, (hb.cell (p := ⟨b2, 1, none⟩) hl2).trans y1, (hb.cell (p := ⟨b2, 2, none⟩) hl2).trans y2, (hb.cell (p := ⟨b2, 3, none⟩) hl2).trans y3, (hb.cell (p := ⟨b2, 4, none⟩) hl2).trans y4⟩)
  go_enter Try.func45, Try.ntmps45
  go_wp2
  refine wp_loop_rounds 2 ?_
  rw [rounds_succ]
  go_wp2_with fail
  go_region_held3 (fun w' => w'.cell? ⟨b1, 0, none⟩ = some (.int .u8 (kd : Int)) ∧ w'.cell? ⟨b1, 1, none⟩ = some (.int .i64 k2) ∧ w'.cell? ⟨b1, 2, none⟩ = some (.int .i64 i) ∧ w'.cell? ⟨b1, 3, none⟩ = some (.string s) ∧ w'.cell? ⟨b1, 4, none⟩ = some (.complex .f64 0 0) ∧ w'.cell? ⟨b2, 0, none⟩ = some (.int .u8 (kd : Int)) ∧ w'.cell? ⟨b2, 1, none⟩ = some (.int .i64 k2) ∧ w'.cell? ⟨b2, 2, none⟩ = some (.int .i64 j) ∧ w'.cell? ⟨b2, 3, none⟩ = some (.string t) ∧ w'.cell? ⟨b2, 4, none⟩ = some (.complex .f64 0 0)) (exact HS.out _ (by go_grown)) (fail)
  · have HB := Lib.hid (show Below w.heap.size w ((w.alloc (.cells #[.int .u8 (kd : Int), .int .i64 k2, .int .i64 i, .string s, .complex .f64 0 0] 41)).alloc (.cells #[.int .u8 (kd : Int), .int .i64 k2, .int .i64 j, .string t, .complex .f64 0 0] 41)).drew by go_grown)
    have HZ := Lib.hid (show ∀ w', Below ((w.alloc (.cells #[.int .u8 (kd : Int), .int .i64 k2, .int .i64 i, .string s, .complex .f64 0 0] 41)).alloc (.cells #[.int .u8 (kd : Int), .int .i64 k2, .int .i64 j, .string t, .complex .f64 0 0] 41)).drew.heap.size ((w.alloc (.cells #[.int .u8 (kd : Int), .int .i64 k2, .int .i64 i, .string s, .complex .f64 0 0] 41)).alloc (.cells #[.int .u8 (kd : Int), .int .i64 k2, .int .i64 j, .string t, .complex .f64 0 0] 41)).drew w' → w'.cell? ⟨w.heap.size, 0, none⟩ = some (.int .u8 (kd : Int)) ∧ w'.cell? ⟨w.heap.size, 1, none⟩ = some (.int .i64 k2) ∧ w'.cell? ⟨w.heap.size, 2, none⟩ = some (.int .i64 i) ∧ w'.cell? ⟨w.heap.size, 3, none⟩ = some (.string s) ∧ w'.cell? ⟨w.heap.size, 4, none⟩ = some (.complex .f64 0 0) ∧ w'.cell? ⟨w.heap.size + 1, 0, none⟩ = some (.int .u8 (kd : Int)) ∧ w'.cell? ⟨w.heap.size + 1, 1, none⟩ = some (.int .i64 k2) ∧ w'.cell? ⟨w.heap.size + 1, 2, none⟩ = some (.int .i64 j) ∧ w'.cell? ⟨w.heap.size + 1, 3, none⟩ = some (.string t) ∧ w'.cell? ⟨w.heap.size + 1, 4, none⟩ = some (.complex .f64 0 0) from fun w' hb => by
      have hX := (new_two w ⟨kd, k2, i, s, 0, 0⟩ ⟨kd, k2, j, t, 0, 0⟩ 41).1.below hb (by simp <;> omega)
      have hY := (new_two w ⟨kd, k2, i, s, 0, 0⟩ ⟨kd, k2, j, t, 0, 0⟩ 41).2.below hb (by simp <;> omega)
      exact ⟨hX.c0, hX.c1, hX.c2, hX.c3, hX.c4, hY.c0, hY.c1, hY.c2, hY.c3, hY.c4⟩)
    go_wp2_with fail
    clear x0 x1 x2 x3 x4 y0 y1 y2 y3 y4 hl1 hl2 HS
    generalize ((w.alloc (.cells #[.int .u8 (kd : Int), .int .i64 k2, .int .i64 i, .string s, .complex .f64 0 0] 41)).alloc (.cells #[.int .u8 (kd : Int), .int .i64 k2, .int .i64 j, .string t, .complex .f64 0 0] 41)).drew = wa at *
    have z := HZ.out wa.drew ((Below.refl _ wa).drew)
    obtain ⟨z0, z1, z2, z3, z4, z5, z6, z7, z8, z9⟩ := z
    go_still_tail 34, (by kernel_rfl)
    still_call (still_of (comp_u8 _ _))
    repeat still_step
    still_call (still_of (comp_int _ _))
    repeat still_step
    still_call (still_of (comp_i64 _ _ _))
    repeat still_step
    still_call (still_of (scomp_any _ _ _))
    repeat still_step
    still_call (still_of (comp_f0 _))
    repeat still_step
    still_call (still_of (comp_f0 _))
    repeat still_step
    refine wpStill_nil ?_
    change wpList _ _ _ _ _ wa.drew
    have HB2 := Lib.hid (show Below w.heap.size w wa.drew from HB.out.drew)
    clear z0 z1 z2 z3 z4 z5 z6 z7 z8 z9 HZ
    generalize wa.drew = wb at *
    go_wp2_with fail
    refine (or_six _ _ (cmpI i j) (Lib.compareBytes s.data.toList t.data.toList) _ (by simp [go_sem]) (by simp [go_sem]) (by simp [go_sem]) (by simp [go_sem]) (by simp [go_sem]) (by simp [go_sem])).mono ?_
    rintro e w2 ⟨rfl, rfl⟩
    have hag : orR (cmpI i j) (Lib.compareBytes s.data.toList t.data.toList) = agaV i j s t := rfl
    rw [hag]
    clear hag
    generalize agaV i j s t = ag at *
    by_cases h0 : ag = 0
    · subst h0
      go_wp2_with fail
      rw [rounds_succ]
      go_wp2_with fail
      go_ret
      exact ⟨rfl, HB2.out.alloc HB2.out.size _⟩
    · have hb : (ag != 0) = true := bne_iff_ne.2 h0
      clear h0
      go_wp2_with fail
      go_ret
      exact ⟨rfl, HB2.out.alloc HB2.out.size _⟩
  · have HB := Lib.hid (show Below w.heap.size w ((w.alloc (.cells #[.int .u8 (kd : Int), .int .i64 k2, .int .i64 j, .string t, .complex .f64 0 0] 41)).alloc (.cells #[.int .u8 (kd : Int), .int .i64 k2, .int .i64 i, .string s, .complex .f64 0 0] 41)).drew by go_grown)
    have HZ := Lib.hid (show ∀ w', Below ((w.alloc (.cells #[.int .u8 (kd : Int), .int .i64 k2, .int .i64 j, .string t, .complex .f64 0 0] 41)).alloc (.cells #[.int .u8 (kd : Int), .int .i64 k2, .int .i64 i, .string s, .complex .f64 0 0] 41)).drew.heap.size ((w.alloc (.cells #[.int .u8 (kd : Int), .int .i64 k2, .int .i64 j, .string t, .complex .f64 0 0] 41)).alloc (.cells #[.int .u8 (kd : Int), .int .i64 k2, .int .i64 i, .string s, .complex .f64 0 0] 41)).drew w' → w'.cell? ⟨w.heap.size + 1, 0, none⟩ = some (.int .u8 (kd : Int)) ∧ w'.cell? ⟨w.heap.size + 1, 1, none⟩ = some (.int .i64 k2) ∧ w'.cell? ⟨w.heap.size + 1, 2, none⟩ = some (.int .i64 i) ∧ w'.cell? ⟨w.heap.size + 1, 3, none⟩ = some (.string s) ∧ w'.cell? ⟨w.heap.size + 1, 4, none⟩ = some (.complex .f64 0 0) ∧ w'.cell? ⟨w.heap.size, 0, none⟩ = some (.int .u8 (kd : Int)) ∧ w'.cell? ⟨w.heap.size, 1, none⟩ = some (.int .i64 k2) ∧ w'.cell? ⟨w.heap.size, 2, none⟩ = some (.int .i64 j) ∧ w'.cell? ⟨w.heap.size, 3, none⟩ = some (.string t) ∧ w'.cell? ⟨w.heap.size, 4, none⟩ = some (.complex .f64 0 0) from fun w' hb => by
      have hX := (new_two w ⟨kd, k2, j, t, 0, 0⟩ ⟨kd, k2, i, s, 0, 0⟩ 41).2.below hb (by simp <;> omega)
      have hY := (new_two w ⟨kd, k2, j, t, 0, 0⟩ ⟨kd, k2, i, s, 0, 0⟩ 41).1.below hb (by simp <;> omega)
      exact ⟨hX.c0, hX.c1, hX.c2, hX.c3, hX.c4, hY.c0, hY.c1, hY.c2, hY.c3, hY.c4⟩)
    go_wp2_with fail
    clear x0 x1 x2 x3 x4 y0 y1 y2 y3 y4 hl1 hl2 HS
    generalize ((w.alloc (.cells #[.int .u8 (kd : Int), .int .i64 k2, .int .i64 j, .string t, .complex .f64 0 0] 41)).alloc (.cells #[.int .u8 (kd : Int), .int .i64 k2, .int .i64 i, .string s, .complex .f64 0 0] 41)).drew = wa at *
    have z := HZ.out wa.drew ((Below.refl _ wa).drew)
    obtain ⟨z0, z1, z2, z3, z4, z5, z6, z7, z8, z9⟩ := z
    go_still_tail 34, (by kernel_rfl)
    still_call (still_of (comp_u8 _ _))
    repeat still_step
    still_call (still_of (comp_int _ _))
    repeat still_step
    still_call (still_of (comp_i64 _ _ _))
    repeat still_step
    still_call (still_of (scomp_any _ _ _))
    repeat still_step
    still_call (still_of (comp_f0 _))
    repeat still_step
    still_call (still_of (comp_f0 _))
    repeat still_step
    refine wpStill_nil ?_
    change wpList _ _ _ _ _ wa.drew
    have HB2 := Lib.hid (show Below w.heap.size w wa.drew from HB.out.drew)
    clear z0 z1 z2 z3 z4 z5 z6 z7 z8 z9 HZ
    generalize wa.drew = wb at *
    go_wp2_with fail
    refine (or_six _ _ (cmpI i j) (Lib.compareBytes s.data.toList t.data.toList) _ (by simp [go_sem]) (by simp [go_sem]) (by simp [go_sem]) (by simp [go_sem]) (by simp [go_sem]) (by simp [go_sem])).mono ?_
    rintro e w2 ⟨rfl, rfl⟩
    have hag : orR (cmpI i j) (Lib.compareBytes s.data.toList t.data.toList) = agaV i j s t := rfl
    rw [hag]
    clear hag
    generalize agaV i j s t = ag at *
    by_cases h0 : ag = 0
    · subst h0
      go_wp2_with fail
      rw [rounds_succ]
      go_wp2_with fail
      go_ret
      exact ⟨rfl, HB2.out.alloc HB2.out.size _⟩
    · have hb : (ag != 0) = true := bne_iff_ne.2 h0
      clear h0
      go_wp2_with fail
      go_ret
      exact ⟨rfl, HB2.out.alloc HB2.out.size _⟩
end Go.Proofs.Ytakailalhpkfdaa
