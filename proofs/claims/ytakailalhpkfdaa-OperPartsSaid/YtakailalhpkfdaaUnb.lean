/- The parts and the conjugate of a complex number of two whole parts: Unary, walked. Printed by a program. -/
import Derived.Test.YtakailalhpkfdaaBin
import Derived.BigQuiet
namespace Go.Proofs.Ytakailalhpkfdaa
open Go.RowKit

theorem bdrewN {B : Nat} {a w : World} (h : Below B a w) (n : Nat) : Below B a (w.drewN n) := h.trans ⟨rfl, rfl, rfl, Nat.le_refl _, fun _ _ => rfl⟩

set_option maxRecDepth 100000 in
set_option maxHeartbeats 4000000 in
theorem una_46 {a b : Int} (ha : Sm a) (hb : Sm b) {b1 c1 : Nat} {w : World} (hx : NodeAt w b1 0 (numN a b)) :
    Calls Try.prog 10 #[.int .u8 46, .slice (some ⟨b1, 0, none⟩) 1 c1] w (MkPostE (intN a) w) := by
  have hsc := store_cx
  have HX := Lib.hid hx
  have hl1 := hx.lt
  have HPA := Lib.hid (fun w => parts_any ha hb w)
  skip
  skip
  have HNE := Lib.hid (fun w (h : NodeAt w b1 0 (numN a b)) => (⟨h.c0, h.c1, h.c2, h.c3, h.c4⟩ : w.cell? ⟨b1, 0, none⟩ = some (.int .u8 4) ∧ w.cell? ⟨b1, 1, none⟩ = some (.int .i64 0) ∧ w.cell? ⟨b1, 2, none⟩ = some (.int .i64 0) ∧ w.cell? ⟨b1, 3, none⟩ = some (.string ⟨#[]⟩) ∧ w.cell? ⟨b1, 4, none⟩ = some (.complex .f64 (fl a) (fl b))))
  clear hx
  generalize fl a = fa at *
  skip
  generalize fl b = fb at *
  go_enter Try.func10, Try.ntmps10
  go_wp2_with fail
  refine (checked_one (b := b1) (c := c1) (.num a b ha hb) (HX.out.below ((Below.refl _ w).alloc (Nat.le_refl _) _) hl1) (by simp)).mono ?_
  rintro e w1 ⟨rfl, h1⟩
  have H1 := Lib.hid (show Below w.heap.size w w1 from bthen ((Below.refl _ w).alloc (Nat.le_refl _) _) h1)
  obtain ⟨c0, c1, c2, c3, c4⟩ := HNE.out _ (HX.out.below H1.out hl1)
  clear h1 HNE
  go_wp2_with fail
  go_quiet (fail)
  go_wp2_with fail
  refine (HPA.out _).mono ?_
  rintro e w3 ⟨rfl, rfl⟩
  go_wp2_with fail
  refine (mk_int a _).mono ?_
  rintro e w4 ⟨b, rfl, hn, hlo, h4⟩
  have hgb := bthen (bdrewN (bthen H1.out ((Below.refl _ w1).alloc (Nat.le_refl _) _)) _) h4
  have hgs : w.heap.size ≤ b := Nat.le_trans (Nat.le_trans H1.out.size (by simp)) hlo
  have HH := Lib.hid (And.intro hn (And.intro hgs hgb))
  clear hn hlo h4 hgb hgs
  go_wp2_with fail
  go_ret2
  exact ⟨b, rfl, HH.out⟩
set_option maxRecDepth 100000 in
set_option maxHeartbeats 4000000 in
theorem una_47 {a b : Int} (ha : Sm a) (hb : Sm b) {b1 c1 : Nat} {w : World} (hx : NodeAt w b1 0 (numN a b)) :
    Calls Try.prog 10 #[.int .u8 47, .slice (some ⟨b1, 0, none⟩) 1 c1] w (MkPostE (intN b) w) := by
  have hsc := store_cx
  have HX := Lib.hid hx
  have hl1 := hx.lt
  have HPA := Lib.hid (fun w => parts_any ha hb w)
  skip
  skip
  have HNE := Lib.hid (fun w (h : NodeAt w b1 0 (numN a b)) => (⟨h.c0, h.c1, h.c2, h.c3, h.c4⟩ : w.cell? ⟨b1, 0, none⟩ = some (.int .u8 4) ∧ w.cell? ⟨b1, 1, none⟩ = some (.int .i64 0) ∧ w.cell? ⟨b1, 2, none⟩ = some (.int .i64 0) ∧ w.cell? ⟨b1, 3, none⟩ = some (.string ⟨#[]⟩) ∧ w.cell? ⟨b1, 4, none⟩ = some (.complex .f64 (fl a) (fl b))))
  clear hx
  generalize fl a = fa at *
  skip
  generalize fl b = fb at *
  go_enter Try.func10, Try.ntmps10
  go_wp2_with fail
  refine (checked_one (b := b1) (c := c1) (.num a b ha hb) (HX.out.below ((Below.refl _ w).alloc (Nat.le_refl _) _) hl1) (by simp)).mono ?_
  rintro e w1 ⟨rfl, h1⟩
  have H1 := Lib.hid (show Below w.heap.size w w1 from bthen ((Below.refl _ w).alloc (Nat.le_refl _) _) h1)
  obtain ⟨c0, c1, c2, c3, c4⟩ := HNE.out _ (HX.out.below H1.out hl1)
  clear h1 HNE
  go_wp2_with fail
  go_quiet (fail)
  go_wp2_with fail
  refine (HPA.out _).mono ?_
  rintro e w3 ⟨rfl, rfl⟩
  go_wp2_with fail
  refine (mk_int b _).mono ?_
  rintro e w4 ⟨b, rfl, hn, hlo, h4⟩
  have hgb := bthen (bdrewN (bthen H1.out ((Below.refl _ w1).alloc (Nat.le_refl _) _)) _) h4
  have hgs : w.heap.size ≤ b := Nat.le_trans (Nat.le_trans H1.out.size (by simp)) hlo
  have HH := Lib.hid (And.intro hn (And.intro hgs hgb))
  clear hn hlo h4 hgb hgs
  go_wp2_with fail
  go_ret2
  exact ⟨b, rfl, HH.out⟩
set_option maxRecDepth 100000 in
set_option maxHeartbeats 4000000 in
theorem una_48 {a b : Int} (ha : Sm a) (hb : Sm b) (hn : Sm (-b)) {b1 c1 : Nat} {w : World} (hx : NodeAt w b1 0 (numN a b)) :
    Calls Try.prog 10 #[.int .u8 48, .slice (some ⟨b1, 0, none⟩) 1 c1] w (MkPostE (numN a (-b)) w) := by
  have hsc := store_cx
  have HX := Lib.hid hx
  have hl1 := hx.lt
  have HPA := Lib.hid (fun w => parts_any ha hb w)
  have HCO := Lib.hid (fun w => conj_any ha hb hn w)
  have HNU := Lib.hid (fun w => number_any ha hn w)
  have HNE := Lib.hid (fun w (h : NodeAt w b1 0 (numN a b)) => (⟨h.c0, h.c1, h.c2, h.c3, h.c4⟩ : w.cell? ⟨b1, 0, none⟩ = some (.int .u8 4) ∧ w.cell? ⟨b1, 1, none⟩ = some (.int .i64 0) ∧ w.cell? ⟨b1, 2, none⟩ = some (.int .i64 0) ∧ w.cell? ⟨b1, 3, none⟩ = some (.string ⟨#[]⟩) ∧ w.cell? ⟨b1, 4, none⟩ = some (.complex .f64 (fl a) (fl b))))
  clear hx
  generalize fl a = fa at *
  generalize fl (-b) = fnb at *
  generalize fl b = fb at *
  go_enter Try.func10, Try.ntmps10
  go_wp2_with fail
  refine (checked_one (b := b1) (c := c1) (.num a b ha hb) (HX.out.below ((Below.refl _ w).alloc (Nat.le_refl _) _) hl1) (by simp)).mono ?_
  rintro e w1 ⟨rfl, h1⟩
  have H1 := Lib.hid (show Below w.heap.size w w1 from bthen ((Below.refl _ w).alloc (Nat.le_refl _) _) h1)
  obtain ⟨c0, c1, c2, c3, c4⟩ := HNE.out _ (HX.out.below H1.out hl1)
  clear h1 HNE
  go_wp2_with fail
  go_quiet (fail)
  go_wp2_with fail
  refine (HCO.out _).mono ?_
  rintro e w3 ⟨rfl, rfl⟩
  go_wp2_with fail
  refine (HNU.out _).mono ?_
  rintro e w4 ⟨b, rfl, hn, hlo, h4⟩
  have hgb := bthen (bdrewN (bthen H1.out ((Below.refl _ w1).alloc (Nat.le_refl _) _)) _) h4
  have hgs : w.heap.size ≤ b := Nat.le_trans (Nat.le_trans H1.out.size (by simp)) hlo
  have HH := Lib.hid (And.intro hn (And.intro hgs hgb))
  clear hn hlo h4 hgb hgs
  go_wp2_with fail
  go_ret2
  exact ⟨b, rfl, HH.out⟩
end Go.Proofs.Ytakailalhpkfdaa
