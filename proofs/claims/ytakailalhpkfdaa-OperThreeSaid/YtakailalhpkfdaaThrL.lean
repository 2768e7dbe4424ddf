/- OperThree, long, walked. Printed by a program. -/
import Derived.Test.YtakailalhpkfdaaTri
import Derived.Laws.AppendOwn
import Derived.Deep.AppendLies
namespace Go.Proofs.Ytakailalhpkfdaa
open Go.RowKit

theorem infoV : (Try.prog.info? 23).map (fun i => (i.zero, i.size, i.bytes)) = some (some (.slice none 0 0), 1, 24) := by kernel_rfl
set_option maxRecDepth 100000 in
set_option maxHeartbeats 8000000 in
theorem three_long (x y : Int) (s t : ByteArray) (hst : (s.size ≤ 4095 ∧ t.size ≤ 4095)) (w : World) : Calls Try.prog 3 #[.int .i64 x, .int .i64 y, .string s, .string t] w (RetB (.bool true) w) := by
  go_enter Try.func3, Try.ntmps3
  go_wp2_with fail
  refine (mk_int x _).mono ?_
  rintro e w1 ⟨b1, rfl, hn1, hlo1, h1⟩
  have HA := Lib.hid (And.intro hn1 (And.intro hlo1 h1))
  clear hn1 hlo1 h1
  go_wp2_with fail
  refine (mk_int y _).mono ?_
  rintro e w2 ⟨b2, rfl, hn2, hlo2, h2⟩
  have HB := Lib.hid (And.intro hn2 (And.intro hlo2 h2))
  clear hn2 hlo2 h2
  go_upto_region 2 with fail
  have hz := HB.out.2.2.size
  have ha1 := HA.out.1.lt
  have hb1 := HB.out.1.lt
  obtain ⟨i0, hi, hz0, hz1, hz2⟩ := info_parts infoV
  have HI0 := Lib.hid hi
  have HZ0 := Lib.hid hz0
  have HZ1 := Lib.hid hz1
  have HZ2 := Lib.hid hz2
  clear hi hz0 hz1 hz2
  obtain ⟨hs, ht⟩ := hst
  have hs1 : decide ((s.size : Int) ≤ 4095) = true := decide_eq_true (by omega)
  have ht1 : decide ((t.size : Int) ≤ 4095) = true := decide_eq_true (by omega)
  obtain ⟨wl, hwl⟩ : ∃ wl, wl = w2.alloc (.cells #[.slice (some ⟨b1, 0, none⟩) 1 1, .slice (some ⟨b2, 0, none⟩) 1 1] 23) := ⟨_, rfl⟩
  have hsl : wl.heap.size = w2.heap.size + 1 := by rw [hwl]; simp
  have HOL := Lib.hid (show wl.ownsRow w2.heap.size 23 1 (.slice (some ⟨w2.heap.size, 0, none⟩) 2 2) 2 [.slice (some ⟨b1, 0, none⟩) 1 1, .slice (some ⟨b2, 0, none⟩) 1 1] from ⟨rfl, .inr ⟨w2.heap.size, 2, _, rfl, Nat.le_refl _, by rw [hwl]; exact Array.getElem?_push_size, Nat.le_refl _, by decide, rfl, rfl⟩⟩)
  have hal := (Below.refl _ w2).alloc (Nat.le_refl _) (.cells #[.slice (some ⟨b1, 0, none⟩) 1 1, .slice (some ⟨b2, 0, none⟩) 1 1] 23)
  rw [← hwl] at hal
  have HN1 := Lib.hid (show NodeAt wl b1 0 (intN x) from (HA.out.1.below HB.out.2.2 ha1).below hal (by omega))
  have HN2 := Lib.hid (show NodeAt wl b2 0 (intN y) from HB.out.1.below hal hb1)
  have HBL := Lib.hid (show Below w.heap.size w wl from bthen (bthen HA.out.2.2 HB.out.2.2) hal)
  have hg0 : w.heap.size ≤ w2.heap.size := Nat.le_trans HA.out.2.2.size HB.out.2.2.size
  rw [← hwl]
  have hbb1 : b1 < w2.heap.size := by omega
  have hbb2 : b2 < w2.heap.size := hb1
  generalize w2.heap.size = g at *
  clear HA HB hwl hz ha1 hb1 hal
  go_wp2_with fail
  refine (mk_text s hs _).mono ?_
  rintro e w3 ⟨b3, rfl, hn3, hlo3, h3⟩
  have HC := Lib.hid (And.intro hn3 (And.intro hlo3 h3))
  clear hn3 hlo3 h3
  go_wp2_with fail
  refine (mk_text t ht _).mono ?_
  rintro e w4 ⟨b4, rfl, hn4, hlo4, h4⟩
  have HD := Lib.hid (And.intro hn4 (And.intro hlo4 h4))
  clear hn4 hlo4 h4
  have hz3 := HC.out.2.2.size
  have hz4 := HD.out.2.2.size
  have hl3 := HC.out.1.lt
  have hl4 := HD.out.1.lt
  have hm3 := HC.out.2.1
  have hm4 := HD.out.2.1
  obtain ⟨wn, hwn⟩ : ∃ wn, wn = w4.alloc (.cells #[.slice (some ⟨b3, 0, none⟩) 1 1, .slice (some ⟨b4, 0, none⟩) 1 1] 23) := ⟨_, rfl⟩
  have hsn : wn.heap.size = w4.heap.size + 1 := by rw [hwn]; simp
  have hc0 : wn.cell? ⟨w4.heap.size, 0, none⟩ = some (.slice (some ⟨b3, 0, none⟩) 1 1) := by rw [hwn]; simp
  have hc1 : wn.cell? ⟨w4.heap.size, 1, none⟩ = some (.slice (some ⟨b4, 0, none⟩) 1 1) := by rw [hwn]; simp
  have haln := (Below.refl _ w4).alloc (Nat.le_refl _) (.cells #[.slice (some ⟨b3, 0, none⟩) 1 1, .slice (some ⟨b4, 0, none⟩) 1 1] 23)
  rw [← hwn] at haln
  have HBN := Lib.hid (show Below wl.heap.size wl wn from bthen (bthen HC.out.2.2 HD.out.2.2) haln)
  have HM1 := Lib.hid (HN1.out.below HBN.out (by omega))
  have HM2 := Lib.hid (HN2.out.below HBN.out (by omega))
  have HM3 := Lib.hid ((HC.out.1.below HD.out.2.2 hl3).below haln (by omega))
  have HM4 := Lib.hid (HD.out.1.below haln hl4)
  have HON := Lib.hid (show wn.ownsRow g 23 1 (.slice (some ⟨g, 0, none⟩) 2 2) 2 [.slice (some ⟨b1, 0, none⟩) 1 1, .slice (some ⟨b2, 0, none⟩) 1 1] from by
    obtain ⟨q1, ⟨q2, _⟩ | ⟨g', cap, cur, e, q3, q4, q5⟩⟩ := HOL.out
    · cases q2
    · cases e
      exact ⟨rfl, .inr ⟨g, 2, cur, rfl, q3, (HBN.out.block g (by omega)).trans q4, q5⟩⟩)
  clear haln HC HD HN1 HN2
  go_wp2_with (at_builtin; refine wpList_append_own _ rfl _ _ 25 rfl g 23 i0 (.slice none 0 0) 1 24 Try.underlying25 HI0.out HZ0.out HZ1.out HZ2.out rfl (by decide) _ 2 [.slice (some ⟨b1, 0, none⟩) 1 1, .slice (some ⟨b2, 0, none⟩) 1 1] rfl ?own ⟨w4.heap.size, 0, none⟩ 2 2 [.slice (some ⟨b3, 0, none⟩) 1 1, .slice (some ⟨b4, 0, none⟩) 1 1] rfl rfl ?c1 ?c2 ?c3 ?c4 ?c5 ?_)
  case own => first | exact HON.out | (rw [← hwn]; exact HON.out)
  case c1 =>
    intro j u hu
    rcases j with _ | _ | j
    · simp at hu; subst hu; first | exact hc0 | (rw [← hwn]; exact hc0)
    · simp at hu; subst hu; first | exact hc1 | (rw [← hwn]; exact hc1)
    · simp at hu
  case c2 => intro u hu; simp at hu; rcases hu with rfl | rfl <;> rfl
  case c3 => decide
  case c4 => decide
  case c5 => first | omega | (rw [← hwn]; omega)
  intro v' wx hown' hgrow _
  rw [← hwn] at hgrow
  have HBX := Lib.hid (show Below w.heap.size w wx from Below.grown (bthen HBL.out HBN.out) hgrow (by omega) (fun q e => by have he : g = q := Option.some.inj e; omega))
  obtain ⟨gx, cx, rfl⟩ : ∃ gx cx, v' = .slice (some ⟨gx, 0, none⟩) 4 cx := by
    rcases hown'.2 with ⟨_, h⟩ | ⟨gx, cx, _, rfl, _⟩
    · exact absurd h (by decide)
    · exact ⟨gx, cx, rfl⟩
  have far : ∀ {b : Nat} {n : Node}, b ≠ g → NodeAt wn b 0 n → NodeAt wx b 0 n := fun {b n} hne h => by
    have hlt := h.lt
    have hne' : some b ≠ some g := fun e => hne (Option.some.inj e)
    exact ⟨(hgrow.cell_far ⟨b, _, none⟩ hlt hne').trans h.c0, (hgrow.cell_far ⟨b, _, none⟩ hlt hne').trans h.c1, (hgrow.cell_far ⟨b, _, none⟩ hlt hne').trans h.c2, (hgrow.cell_far ⟨b, _, none⟩ hlt hne').trans h.c3, (hgrow.cell_far ⟨b, _, none⟩ hlt hne').trans h.c4⟩
  have HLS := Lib.hid (show LS wx gx 4 from by
    refine ⟨.inr rfl, fun k hk h2 => ?_⟩
    rcases h2 with rfl | rfl
    · exact ⟨intN x, intN y, _, _, b1, 1, b2, 1, .int x y, .int y x, tri_int x y, hown'.cellAt 0 (by decide), hown'.cellAt 1 (by decide), far (by omega) HM1.out, far (by omega) HM2.out⟩
    · exact ⟨textN s, textN t, _, _, b3, 1, b4, 1, .text s t hs ht, .text t s ht hs, tri_text _ _, hown'.cellAt 2 (by decide), hown'.cellAt 3 (by decide), far (by omega) HM3.out, far (by omega) HM4.out⟩)
  clear far hown' hgrow HM1 HM2 HM3 HM4 HON HBN HBL HOL hc0 hc1 hwn hsn hsl HI0 HZ0 HZ1 HZ2 hz3 hz4 hl3 hl4 hm3 hm4 hs ht hbb1 hbb2 hg0
  generalize gx = g at *
  go_wp2_with fail
  go_loopw [14, 15, 16, 17, 18, 19, 20, 21, 22, 23, 24] (fun i _ _ _ _ _ _ _ _ _ _ wr => ∃ k : Nat, i = .int .i64 k ∧ (k = 0 ∨ k = 2 ∨ k = 4) ∧ k ≤ 4 ∧ Below wx.heap.size wx wr) (fun i _ _ _ _ _ _ _ _ _ _ _ => 4 - (intOf i).toNat)
  case atStart => exact ⟨0, rfl, .inl rfl, Nat.zero_le _, Below.refl _ _⟩
  case round =>
    obtain ⟨k, rfl, hk, hkn, hb⟩ := hrel
    have HR := Lib.hid hb
    rcases (show k = 0 ∨ k = 2 ∨ k = 4 by omega) with rfl | rfl | rfl
    · obtain ⟨vx, vy, c, d, b1, c1, b2, c2, p, q, tri, e1, e2, m1, m2⟩ := HLS.out.2 0 (by omega) (by omega)
      have hg := World.block_lt_of_cell? _ _ e1
      have hl1 := m1.lt
      have hl2 := m2.lt
      have HM1 := Lib.hid m1
      have HM2 := Lib.hid m2
      have HS := Lib.hid (show ∀ w', Below wx.heap.size wx w' → w'.cell? ⟨g, 0, none⟩ = some (.slice (some ⟨b1, 0, none⟩) 1 c1) ∧ w'.cell? ⟨g, 1, none⟩ = some (.slice (some ⟨b2, 0, none⟩) 1 c2) from fun w' hb => ⟨(hb.cell (p := ⟨g, 0, none⟩) hg).trans e1, (hb.cell (p := ⟨g, 1, none⟩) hg).trans e2⟩)
      clear hb e1 e2 m1 m2 hk hkn
      have hw1 : IntKind.i64.wrap 1 = 1 := by decide
      go_wp2_with fail
      go_region_held3 (fun w' => w'.cell? ⟨g, 0, none⟩ = some (.slice (some ⟨b1, 0, none⟩) 1 c1) ∧ w'.cell? ⟨g, 1, none⟩ = some (.slice (some ⟨b2, 0, none⟩) 1 c2)) (first | exact HS.out _ HR.out.drew | exact HS.out _ (bthen HR.out.drew (by assumption))) (first | (go_at_call 7; refine (asked_any (op := 34) (.inr (.inr (.inl rfl))) p (NodeAt.below HM1.out HR.out.drew hl1) (NodeAt.below HM2.out HR.out.drew hl2)).mono ?_; rintro e w3 ⟨rfl, h3⟩))
      have H0 := Lib.hid (show Below wx.heap.size wx _ from bthen HR.out.drew h3)
      clear h3
      go_wp2_with fail
      go_region_held3 (fun w' => w'.cell? ⟨g, 0, none⟩ = some (.slice (some ⟨b1, 0, none⟩) 1 c1) ∧ w'.cell? ⟨g, 1, none⟩ = some (.slice (some ⟨b2, 0, none⟩) 1 c2)) (first | exact HS.out _ H0.out.drew | exact HS.out _ (bthen H0.out.drew (by assumption))) (first | (go_at_call 7; refine (asked_any (op := 32) (.inl rfl) p (NodeAt.below HM1.out H0.out.drew hl1) (NodeAt.below HM2.out H0.out.drew hl2)).mono ?_; rintro e w3 ⟨rfl, h3⟩))
      have H1 := Lib.hid (show Below wx.heap.size wx _ from bthen H0.out.drew h3)
      clear h3
      go_wp2_with fail
      go_region_held3 (fun w' => w'.cell? ⟨g, 0, none⟩ = some (.slice (some ⟨b1, 0, none⟩) 1 c1) ∧ w'.cell? ⟨g, 1, none⟩ = some (.slice (some ⟨b2, 0, none⟩) 1 c2)) (first | exact HS.out _ H1.out.drew | exact HS.out _ (bthen H1.out.drew (by assumption))) (first | (go_at_call 7; refine (asked_any (op := 34) (.inr (.inr (.inl rfl))) q (NodeAt.below HM2.out H1.out.drew hl2) (NodeAt.below HM1.out H1.out.drew hl1)).mono ?_; rintro e w3 ⟨rfl, h3⟩))
      have H2 := Lib.hid (show Below wx.heap.size wx _ from bthen H1.out.drew h3)
      clear h3
      go_wp2_with fail
      go_region_held3 (fun w' => w'.cell? ⟨g, 0, none⟩ = some (.slice (some ⟨b1, 0, none⟩) 1 c1) ∧ w'.cell? ⟨g, 1, none⟩ = some (.slice (some ⟨b2, 0, none⟩) 1 c2)) (first | exact HS.out _ H2.out.drew | exact HS.out _ (bthen H2.out.drew (by assumption))) (first | (go_at_call 7; refine (asked_any (op := 35) (.inr (.inr (.inr rfl))) p (NodeAt.below HM1.out H2.out.drew hl1) (NodeAt.below HM2.out H2.out.drew hl2)).mono ?_; rintro e w3 ⟨rfl, h3⟩))
      have H3 := Lib.hid (show Below wx.heap.size wx _ from bthen H2.out.drew h3)
      clear h3
      go_wp2_with fail
      go_region_held3 (fun w' => w'.cell? ⟨g, 0, none⟩ = some (.slice (some ⟨b1, 0, none⟩) 1 c1) ∧ w'.cell? ⟨g, 1, none⟩ = some (.slice (some ⟨b2, 0, none⟩) 1 c2)) (first | exact HS.out _ H3.out.drew | exact HS.out _ (bthen H3.out.drew (by assumption))) (first | (go_at_call 7; refine (asked_any (op := 33) (.inr (.inl rfl)) p (NodeAt.below HM1.out H3.out.drew hl1) (NodeAt.below HM2.out H3.out.drew hl2)).mono ?_; rintro e w3 ⟨rfl, h3⟩))
      have H4 := Lib.hid (show Below wx.heap.size wx _ from bthen H3.out.drew h3)
      clear h3
      rcases tri_ops tri with ⟨o1, o2, o3, o4, o5⟩ | ⟨o1, o2, o3, o4, o5⟩ | ⟨o1, o2, o3, o4, o5⟩
      all_goals (
        rw [o1, o2, o3, o4, o5]
        clear o1 o2 o3 o4 o5
        go_wp2_with fail)
      all_goals (
        go_roundw
        case rel => exact ⟨0 + 2, by go_num, by omega, by omega, H4.out⟩
        case measure => simp [intOf])
    · obtain ⟨vx, vy, c, d, b1, c1, b2, c2, p, q, tri, e1, e2, m1, m2⟩ := HLS.out.2 2 (by omega) (by omega)
      have hg := World.block_lt_of_cell? _ _ e1
      have hl1 := m1.lt
      have hl2 := m2.lt
      have HM1 := Lib.hid m1
      have HM2 := Lib.hid m2
      have HS := Lib.hid (show ∀ w', Below wx.heap.size wx w' → w'.cell? ⟨g, 2, none⟩ = some (.slice (some ⟨b1, 0, none⟩) 1 c1) ∧ w'.cell? ⟨g, 3, none⟩ = some (.slice (some ⟨b2, 0, none⟩) 1 c2) from fun w' hb => ⟨(hb.cell (p := ⟨g, 2, none⟩) hg).trans e1, (hb.cell (p := ⟨g, 3, none⟩) hg).trans e2⟩)
      clear hb e1 e2 m1 m2 hk hkn
      have hw1 : IntKind.i64.wrap 3 = 3 := by decide
      go_wp2_with fail
      go_region_held3 (fun w' => w'.cell? ⟨g, 2, none⟩ = some (.slice (some ⟨b1, 0, none⟩) 1 c1) ∧ w'.cell? ⟨g, 3, none⟩ = some (.slice (some ⟨b2, 0, none⟩) 1 c2)) (first | exact HS.out _ HR.out.drew | exact HS.out _ (bthen HR.out.drew (by assumption))) (first | (go_at_call 7; refine (asked_any (op := 34) (.inr (.inr (.inl rfl))) p (NodeAt.below HM1.out HR.out.drew hl1) (NodeAt.below HM2.out HR.out.drew hl2)).mono ?_; rintro e w3 ⟨rfl, h3⟩))
      have H0 := Lib.hid (show Below wx.heap.size wx _ from bthen HR.out.drew h3)
      clear h3
      go_wp2_with fail
      go_region_held3 (fun w' => w'.cell? ⟨g, 2, none⟩ = some (.slice (some ⟨b1, 0, none⟩) 1 c1) ∧ w'.cell? ⟨g, 3, none⟩ = some (.slice (some ⟨b2, 0, none⟩) 1 c2)) (first | exact HS.out _ H0.out.drew | exact HS.out _ (bthen H0.out.drew (by assumption))) (first | (go_at_call 7; refine (asked_any (op := 32) (.inl rfl) p (NodeAt.below HM1.out H0.out.drew hl1) (NodeAt.below HM2.out H0.out.drew hl2)).mono ?_; rintro e w3 ⟨rfl, h3⟩))
      have H1 := Lib.hid (show Below wx.heap.size wx _ from bthen H0.out.drew h3)
      clear h3
      go_wp2_with fail
      go_region_held3 (fun w' => w'.cell? ⟨g, 2, none⟩ = some (.slice (some ⟨b1, 0, none⟩) 1 c1) ∧ w'.cell? ⟨g, 3, none⟩ = some (.slice (some ⟨b2, 0, none⟩) 1 c2)) (first | exact HS.out _ H1.out.drew | exact HS.out _ (bthen H1.out.drew (by assumption))) (first | (go_at_call 7; refine (asked_any (op := 34) (.inr (.inr (.inl rfl))) q (NodeAt.below HM2.out H1.out.drew hl2) (NodeAt.below HM1.out H1.out.drew hl1)).mono ?_; rintro e w3 ⟨rfl, h3⟩))
      have H2 := Lib.hid (show Below wx.heap.size wx _ from bthen H1.out.drew h3)
      clear h3
      go_wp2_with fail
      go_region_held3 (fun w' => w'.cell? ⟨g, 2, none⟩ = some (.slice (some ⟨b1, 0, none⟩) 1 c1) ∧ w'.cell? ⟨g, 3, none⟩ = some (.slice (some ⟨b2, 0, none⟩) 1 c2)) (first | exact HS.out _ H2.out.drew | exact HS.out _ (bthen H2.out.drew (by assumption))) (first | (go_at_call 7; refine (asked_any (op := 35) (.inr (.inr (.inr rfl))) p (NodeAt.below HM1.out H2.out.drew hl1) (NodeAt.below HM2.out H2.out.drew hl2)).mono ?_; rintro e w3 ⟨rfl, h3⟩))
      have H3 := Lib.hid (show Below wx.heap.size wx _ from bthen H2.out.drew h3)
      clear h3
      go_wp2_with fail
      go_region_held3 (fun w' => w'.cell? ⟨g, 2, none⟩ = some (.slice (some ⟨b1, 0, none⟩) 1 c1) ∧ w'.cell? ⟨g, 3, none⟩ = some (.slice (some ⟨b2, 0, none⟩) 1 c2)) (first | exact HS.out _ H3.out.drew | exact HS.out _ (bthen H3.out.drew (by assumption))) (first | (go_at_call 7; refine (asked_any (op := 33) (.inr (.inl rfl)) p (NodeAt.below HM1.out H3.out.drew hl1) (NodeAt.below HM2.out H3.out.drew hl2)).mono ?_; rintro e w3 ⟨rfl, h3⟩))
      have H4 := Lib.hid (show Below wx.heap.size wx _ from bthen H3.out.drew h3)
      clear h3
      rcases tri_ops tri with ⟨o1, o2, o3, o4, o5⟩ | ⟨o1, o2, o3, o4, o5⟩ | ⟨o1, o2, o3, o4, o5⟩
      all_goals (
        rw [o1, o2, o3, o4, o5]
        clear o1 o2 o3 o4 o5
        go_wp2_with fail)
      all_goals (
        go_roundw
        case rel => exact ⟨2 + 2, by go_num, by omega, by omega, H4.out⟩
        case measure => simp [intOf])
    · clear hb
      go_wp2_with fail
      refine (wakes_any _).mono ?_
      rintro e w3 ⟨rfl, h3⟩
      have H3 := Lib.hid (bthen HBX.out (bthen' HR.out h3 (Nat.le_refl _)))
      clear h3
      go_wp2_with fail
      go_ret
      exact ⟨rfl, H3.out⟩
end Go.Proofs.Ytakailalhpkfdaa
