/- The sum of two complex numbers of whole parts: Binary, walked. -/
import Derived.Test.YtakailalhpkfdaaBin
namespace Go.Proofs.Ytakailalhpkfdaa
open Go.RowKit

theorem cxof_any {a b : Int} {b1 c1 : Nat} {w : World} (hx : NodeAt w b1 0 (numN a b)) : Calls Try.prog 31 #[.slice (some ⟨b1, 0, none⟩) 1 c1] w (Ret (.complex .f64 (fl a) (fl b)) w) := by
  have h0 : w.cell? ⟨b1, 0, none⟩ = some (.int .u8 4) := hx.c0
  have h4 : w.cell? ⟨b1, 4, none⟩ = some (.complex .f64 (fl a) (fl b)) := hx.c4
  clear hx
  generalize fl a = fa at *
  generalize fl b = fb at *
  go_enter Try.func31, Try.ntmps31
  go_wp2
  go_ret
  exact ⟨rfl, rfl⟩
theorem byc_any {a b c d : Int} (ha : Sm a) (hb : Sm b) (hc : Sm c) (hd : Sm d) (hr : Sm (a + c)) (hi : Sm (b + d)) (w : World) :
    Calls Try.prog 32 #[.complex .f64 (fl a) (fl b), .complex .f64 (fl c) (fl d), .func (.func 33) #[] #[], .func (.func 21) #[] #[]] w (MkPostE (numN (a + c) (b + d)) w) := by
  have HAD := Lib.hid (fun w => add_any ha hb hc hd hr hi w)
  have HNU := Lib.hid (fun w => number_any hr hi w)
  generalize fl (a + c) = fr at *
  generalize fl (b + d) = fi at *
  generalize fl a = fa at *
  generalize fl b = fb at *
  generalize fl c = fc at *
  generalize fl d = fd at *
  go_enter Try.func32, Try.ntmps32
  go_wp2_with fail
  refine (HAD.out _).mono ?_
  rintro e w1 ⟨rfl, rfl⟩
  go_wp2_with fail
  refine (HNU.out _).mono ?_
  rintro e w2 ⟨b, rfl, hn, hlo, h2⟩
  have HH := Lib.hid (And.intro hn (And.intro hlo h2))
  clear hn hlo h2
  go_wp2_with fail
  go_ret2
  exact ⟨b, rfl, HH.out⟩
set_option maxRecDepth 100000 in
set_option maxHeartbeats 4000000 in
theorem bin_addc {a b c d : Int} (ha : Sm a) (hb : Sm b) (hc : Sm c) (hd : Sm d) (hr : Sm (a + c)) (hi : Sm (b + d)) {b1 c1 b2 c2 : Nat} {w : World} (hx : NodeAt w b1 0 (numN a b)) (hy : NodeAt w b2 0 (numN c d)) :
    Calls Try.prog 9 #[.int .u8 36, .slice (some ⟨b1, 0, none⟩) 1 c1, .slice (some ⟨b2, 0, none⟩) 1 c2] w (MkPostE (numN (a + c) (b + d)) w) := by
  have HX := Lib.hid hx
  have HY := Lib.hid hy
  have hl1 := hx.lt
  have hl2 := hy.lt
  have HBY := Lib.hid (fun w => byc_any ha hb hc hd hr hi w)
  have HC1 := Lib.hid (fun w (h : NodeAt w b1 0 (numN a b)) => cxof_any (c1 := c1) h)
  have HC2 := Lib.hid (fun w (h : NodeAt w b2 0 (numN c d)) => cxof_any (c1 := c2) h)
  clear hx hy
  generalize fl a = fa at *
  generalize fl b = fb at *
  generalize fl c = fc at *
  generalize fl d = fd at *
  go_enter Try.func9, Try.ntmps9
  go_wp2_with fail
  refine (checked_two (b := b1) (c := c1) (d := b2) (f := c2) (.num a b ha hb) (.num c d hc hd) (HX.out.below ((Below.refl _ w).alloc (Nat.le_refl _) _) hl1) (HY.out.below ((Below.refl _ w).alloc (Nat.le_refl _) _) hl2) (by simp) (by simp)).mono ?_
  rintro e w1 ⟨rfl, h1⟩
  have H1 := Lib.hid (show Below w.heap.size w w1 from bthen ((Below.refl _ w).alloc (Nat.le_refl _) _) h1)
  clear h1
  have HS := Lib.hid (show ∀ w', Below w.heap.size w w' → w'.cell? ⟨b1, 0, none⟩ = some (.int .u8 4) ∧ w'.cell? ⟨b2, 0, none⟩ = some (.int .u8 4) from fun w' hb => ⟨(HX.out.below hb hl1).c0, (HY.out.below hb hl2).c0⟩)
  go_wp2_with fail
  go_region_held3 (fun w' => w'.cell? ⟨b1, 0, none⟩ = some (.int .u8 4) ∧ w'.cell? ⟨b2, 0, none⟩ = some (.int .u8 4)) (first | exact HS.out _ H1.out.drew | exact HS.out _ (bthen H1.out.drew (by assumption)) | exact HS.out _ (bthen H1.out (by assumption))) (first | (go_at_call 18; refine (kinds_any _).mono ?_; rintro e w2 ⟨mb, es, cc, rfl, hm, he, hbk⟩; have hlk : (Instr.lookup 48 (.map (some mb)) (.agg #[.int .u8 4, .int .u8 4]) false).run Try.prog w2 = .ok (.int .i64 2) w2 := look_kind (kd := 4) (i := 3) (by omega) rfl rfl hm he))
  have H2 := Lib.hid (show Below w.heap.size w w2 from bthen H1.out.drew hbk)
  clear hlk hbk hm he HS
  go_wp2_with fail
  refine (HC1.out _ (HX.out.below H2.out hl1)).mono ?_
  rintro e w3 ⟨rfl, rfl⟩
  go_wp2_with fail
  refine (HC2.out _ (HY.out.below H2.out hl2)).mono ?_
  rintro e w3 ⟨rfl, rfl⟩
  go_wp2_with fail
  refine (HBY.out _).mono ?_
  rintro e w4 ⟨b, rfl, hn, hlo, h4⟩
  have HH := Lib.hid (And.intro hn (And.intro hlo h4))
  clear hn hlo h4
  go_wp2_with fail
  go_ret2
  exact ⟨b, rfl, HH.out.1, Nat.le_trans H2.out.size HH.out.2.1, bthen H2.out HH.out.2.2⟩
end Go.Proofs.Ytakailalhpkfdaa
