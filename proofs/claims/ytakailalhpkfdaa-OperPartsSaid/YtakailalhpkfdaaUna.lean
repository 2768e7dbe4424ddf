/- A complex number of two whole parts: made of two whole numbers; its parts, its conjugate; walked. -/
import Derived.Test.YtakailalhpkfdaaBin
import Derived.BigQuiet
namespace Go.Proofs.Ytakailalhpkfdaa
open Go.RowKit

set_option maxRecDepth 100000 in
set_option maxHeartbeats 4000000 in
theorem bin_onum {x y : Int} (hx' : Sm x) (hy' : Sm y) {b1 c1 b2 c2 : Nat} {w : World} (hx : NodeAt w b1 0 (intN x)) (hy : NodeAt w b2 0 (intN y)) :
    Calls Try.prog 9 #[.int .u8 41, .slice (some ⟨b1, 0, none⟩) 1 c1, .slice (some ⟨b2, 0, none⟩) 1 c2] w (MkPostE (numN x y) w) := by
  have HX := Lib.hid hx
  have HY := Lib.hid hy
  have hl1 := hx.lt
  have hl2 := hy.lt
  have HNU := Lib.hid (fun w => number_any hx' hy' w)
  have HOF := Lib.hid (fun w => of_any x y w)
  clear hx hy
  generalize fl x = fx at *
  generalize fl y = fy at *
  go_enter Try.func9, Try.ntmps9
  go_wp2_with fail
  refine (checked_two (b := b1) (c := c1) (d := b2) (f := c2) (Plain1.int x) (Plain1.int y) (HX.out.below ((Below.refl _ w).alloc (Nat.le_refl _) _) hl1) (HY.out.below ((Below.refl _ w).alloc (Nat.le_refl _) _) hl2) (by simp) (by simp)).mono ?_
  rintro e w1 ⟨rfl, h1⟩
  have H1 := Lib.hid (show Below w.heap.size w w1 from bthen ((Below.refl _ w).alloc (Nat.le_refl _) _) h1)
  clear h1
  have HS := Lib.hid (show ∀ w', Below w.heap.size w w' → w'.cell? ⟨b1, 0, none⟩ = some (.int .u8 2) ∧ w'.cell? ⟨b2, 0, none⟩ = some (.int .u8 2) from fun w' hb => ⟨(HX.out.below hb hl1).c0, (HY.out.below hb hl2).c0⟩)
  go_wp2_with fail
  go_region_held3 (fun w' => w'.cell? ⟨b1, 0, none⟩ = some (.int .u8 2) ∧ w'.cell? ⟨b2, 0, none⟩ = some (.int .u8 2)) (first | exact HS.out _ H1.out.drew | exact HS.out _ (bthen H1.out.drew (by assumption)) | exact HS.out _ (bthen H1.out (by assumption))) (first | (go_at_call 18; refine (kinds_any _).mono ?_; rintro e w2 ⟨mb, es, cc, rfl, hm, he, hbk⟩; have hlk : (Instr.lookup 48 (.map (some mb)) (.agg #[.int .u8 2, .int .u8 2]) false).run Try.prog w2 = .ok (.int .i64 1) w2 := look_kind (kd := 2) (i := 0) (by omega) rfl rfl hm he))
  have H2 := Lib.hid (show Below w.heap.size w w2 from bthen H1.out.drew hbk)
  clear hlk hbk hm he HS
  have HS := Lib.hid (show ∀ w', Below w.heap.size w w' → w'.cell? ⟨b1, 2, none⟩ = some (.int .i64 x) ∧ w'.cell? ⟨b2, 2, none⟩ = some (.int .i64 y) from fun w' hb => ⟨(HX.out.below hb hl1).c2, (HY.out.below hb hl2).c2⟩)
  go_wp2_with fail
  go_region_held3 (fun w' => w'.cell? ⟨b1, 2, none⟩ = some (.int .i64 x) ∧ w'.cell? ⟨b2, 2, none⟩ = some (.int .i64 y)) (first | exact HS.out _ H2.out.drew | exact HS.out _ (bthen H2.out.drew (by assumption)) | exact HS.out _ (bthen H2.out (by assumption))) (first | (go_at_call 22; refine (HOF.out _).mono ?_; rintro e w3 ⟨rfl, rfl⟩) | (go_at_call 21; refine (HNU.out _).mono ?_; rintro e w4 ⟨b, rfl, hn, hlo, h4⟩))
  have HH := Lib.hid (And.intro hn (And.intro hlo h4))
  clear hn hlo h4 HS
  go_wp2_with fail
  go_ret2
  exact ⟨b, rfl, HH.out.1, Nat.le_trans H2.out.drew.size HH.out.2.1, bthen H2.out.drew HH.out.2.2⟩
end Go.Proofs.Ytakailalhpkfdaa
