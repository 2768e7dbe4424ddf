/- A sum of two whole numbers, and what wakes the law, walked. -/
import Derived.Test.YtakailalhpkfdaaBin
namespace Go.Proofs.Ytakailalhpkfdaa
open Go.RowKit

theorem add_23 (w : World) : Calls Try.prog 26 #[.int .i64 2, .int .i64 3] w (Ret (.int .i64 5) w) := by
  go_enter Try.func26, Try.ntmps26
  go_wp2
  go_ret
  exact ⟨rfl, rfl⟩
theorem sure_any (w : World) : Calls Try.prog 25 #[.func (.func 26) #[] #[]] w fun e w' => ∃ g, e = .returned (.func (.func 49) #[] #[.pointer (some ⟨g, 0, none⟩)]) ∧ w'.cell? ⟨g, 0, none⟩ = some (.func (.func 26) #[] #[]) ∧ Below w.heap.size w w' := by
  go_enter Try.func25, Try.ntmps25
  go_wp2
  go_ret
  exact ⟨_, rfl, by simp, by go_grown⟩
theorem sure1_23 {g : Nat} {w : World} (h : w.cell? ⟨g, 0, none⟩ = some (.func (.func 26) #[] #[])) : Calls Try.prog 49 #[.int .i64 2, .int .i64 3, .pointer (some ⟨g, 0, none⟩)] w (RetB (.tuple #[.int .i64 5, .int .i64 0]) w) := by
  have hg := World.block_lt_of_cell? w _ h
  go_enter Try.func49, Try.ntmps49
  go_wp2_with (first | (go_at_call 26; refine (add_23 _).mono ?_; rintro e w1 ⟨rfl, rfl⟩))
  go_ret2
  exact ⟨rfl, by first | exact Below.refl _ _ | exact (Below.refl _ _).drew | go_grown⟩
theorem by_23 {g : Nat} {w : World} (h : w.cell? ⟨g, 0, none⟩ = some (.func (.func 26) #[] #[])) :
    Calls Try.prog 24 #[.int .i64 2, .int .i64 3, .func (.func 49) #[] #[.pointer (some ⟨g, 0, none⟩)], .func (.func 5) #[] #[]] w (MkPostE (intN 5) w) := by
  have HG := Lib.hid (sure1_23 h)
  clear h
  go_enter Try.func24, Try.ntmps24
  go_wp2_with fail
  refine HG.out.mono ?_
  rintro e w1 ⟨rfl, h1⟩
  have H1 := Lib.hid h1
  clear h1 HG
  go_wp2_with fail
  refine (mk_int 5 _).mono ?_
  rintro e w2 ⟨b, rfl, hn, hlo, h2⟩
  have HH := Lib.hid (And.intro hn (And.intro hlo h2))
  clear hn hlo h2
  go_wp2_with fail
  go_ret2
  exact ⟨b, rfl, HH.out.1, Nat.le_trans H1.out.size HH.out.2.1, bthen H1.out HH.out.2.2⟩
set_option maxRecDepth 100000 in
set_option maxHeartbeats 4000000 in
theorem bin_add23 {b1 c1 b2 c2 : Nat} {w : World} (hx : NodeAt w b1 0 (intN 2)) (hy : NodeAt w b2 0 (intN 3)) :
    Calls Try.prog 9 #[.int .u8 36, .slice (some ⟨b1, 0, none⟩) 1 c1, .slice (some ⟨b2, 0, none⟩) 1 c2] w (MkPostE (intN 5) w) := by
  have HX := Lib.hid hx
  have HY := Lib.hid hy
  have hl1 := hx.lt
  have hl2 := hy.lt
  clear hx hy
  go_enter Try.func9, Try.ntmps9
  go_wp2_with fail
  refine (checked_two (b := b1) (c := c1) (d := b2) (f := c2) (Plain1.int 2) (Plain1.int 3) (HX.out.below ((Below.refl _ w).alloc (Nat.le_refl _) _) hl1) (HY.out.below ((Below.refl _ w).alloc (Nat.le_refl _) _) hl2) (by simp) (by simp)).mono ?_
  rintro e w1 ⟨rfl, h1⟩
  have H1 := Lib.hid (show Below w.heap.size w w1 from bthen ((Below.refl _ w).alloc (Nat.le_refl _) _) h1)
  clear h1
  have HS := Lib.hid (show ∀ w', Below w.heap.size w w' → w'.cell? ⟨b1, 0, none⟩ = some (.int .u8 2) ∧ w'.cell? ⟨b2, 0, none⟩ = some (.int .u8 2) from fun w' hb => ⟨(HX.out.below hb hl1).c0, (HY.out.below hb hl2).c0⟩)
  go_wp2_with fail
  go_region_held3 (fun w' => w'.cell? ⟨b1, 0, none⟩ = some (.int .u8 2) ∧ w'.cell? ⟨b2, 0, none⟩ = some (.int .u8 2)) (first | exact HS.out _ H1.out.drew | exact HS.out _ (bthen H1.out.drew (by assumption)) | exact HS.out _ (bthen H1.out (by assumption))) (first | (go_at_call 18; refine (kinds_any _).mono ?_; rintro e w2 ⟨mb, es, cc, rfl, hm, he, hbk⟩; have hlk : (Instr.lookup 48 (.map (some mb)) (.agg #[.int .u8 2, .int .u8 2]) false).run Try.prog w2 = .ok (.int .i64 1) w2 := look_kind (kd := 2) (i := 0) (by omega) rfl rfl hm he))
  have H2 := Lib.hid (show Below w.heap.size w w2 from bthen H1.out.drew hbk)
  clear hlk hbk hm he HS
  have HS := Lib.hid (show ∀ w', Below w.heap.size w w' → w'.cell? ⟨b1, 2, none⟩ = some (.int .i64 2) ∧ w'.cell? ⟨b2, 2, none⟩ = some (.int .i64 3) from fun w' hb => ⟨(HX.out.below hb hl1).c2, (HY.out.below hb hl2).c2⟩)
  go_wp2_with fail
  go_region_held3 (fun w' => w'.cell? ⟨b1, 2, none⟩ = some (.int .i64 2) ∧ w'.cell? ⟨b2, 2, none⟩ = some (.int .i64 3)) (first | exact HS.out _ H2.out.drew | exact HS.out _ (bthen H2.out.drew (by assumption)) | exact HS.out _ (bthen H2.out (by assumption))) (fail)
  go_wp2_with fail
  refine (sure_any _).mono ?_
  rintro e w3 ⟨g, rfl, hg, h3⟩
  have H3 := Lib.hid (show Below w.heap.size w w3 from by first | exact bthen H2.out h3 | exact bthen H2.out.drew h3 | exact bthen H2.out.drew.drew h3 | exact bthen H2.out.drew.drew.drew h3)
  have HG := Lib.hid hg
  clear h3 hg HS
  go_wp2_with fail
  refine (by_23 HG.out).mono ?_
  rintro e w4 ⟨b, rfl, hn, hlo, h4⟩
  have HH := Lib.hid (And.intro hn (And.intro hlo h4))
  clear hn hlo h4
  go_wp2_with fail
  go_ret2
  exact ⟨b, rfl, HH.out.1, Nat.le_trans H3.out.size HH.out.2.1, bthen H3.out HH.out.2.2⟩
end Go.Proofs.Ytakailalhpkfdaa
