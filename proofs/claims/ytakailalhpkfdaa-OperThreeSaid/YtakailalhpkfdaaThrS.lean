/- OperThree, short, walked. Printed by a program. -/
import Derived.Test.YtakailalhpkfdaaTri
import Derived.Laws.AppendOwn
import Derived.Deep.AppendLies
namespace Go.Proofs.Ytakailalhpkfdaa
open Go.RowKit

set_option maxRecDepth 100000 in
set_option maxHeartbeats 8000000 in
theorem three_short (x y : Int) (s t : ByteArray) (hst : ¬ (s.size ≤ 4095 ∧ t.size ≤ 4095)) (w : World) : Calls Try.prog 3 #[.int .i64 x, .int .i64 y, .string s, .string t] w (RetB (.bool true) w) := by
  go_enter Try.func3, Try.ntmps3
  go_wp2_with fail
  refine (mk_int x _).mono ?_
  rintro e w1 ⟨b1, rfl, hn1, hlo1, h1⟩
  have HA := Lib.hid (And.intro hn1 (And.intro hlo1 h1))
  clear hn1 hlo1 h1
  go_wp2_with fail
  refine (mk_int y _).mono ?_
  rintro e w2 ⟨b2, rfl, hn2, hlo2, h2⟩
  have HB := Lib.hid (And.intro hn2 (And.intro hlo2 h2))
  clear hn2 hlo2 h2
  go_upto_region 2 with fail
  have hz := HB.out.2.2.size
  have ha1 := HA.out.1.lt
  have hb1 := HB.out.1.lt
  obtain ⟨wx, hwx⟩ : ∃ wx, wx = w2.alloc (.cells #[.slice (some ⟨b1, 0, none⟩) 1 1, .slice (some ⟨b2, 0, none⟩) 1 1] 23) := ⟨_, rfl⟩
  have HBX := Lib.hid (show Below w.heap.size w wx from by rw [hwx]; exact (bthen HA.out.2.2 HB.out.2.2).alloc (Nat.le_trans HA.out.2.2.size HB.out.2.2.size) _)
  have HLS := Lib.hid (show LS wx w2.heap.size 2 from by
    refine ⟨.inl rfl, fun k hk h2 => ?_⟩
    obtain rfl : k = 0 := by omega
    rw [hwx]
    have hal := (Below.refl _ w2).alloc (Nat.le_refl _) (.cells #[.slice (some ⟨b1, 0, none⟩) 1 1, .slice (some ⟨b2, 0, none⟩) 1 1] 23)
    exact ⟨intN x, intN y, _, _, b1, 1, b2, 1, .int x y, .int y x, tri_int x y, by simp, by simp, (HA.out.1.below HB.out.2.2 ha1).below hal (by omega), HB.out.1.below hal hb1⟩)
  rw [← hwx]
  generalize w2.heap.size = g at *
  clear HA HB hwx hz ha1 hb1
  have hss : 4095 < s.size ∨ s.size ≤ 4095 ∧ 4095 < t.size := by omega
  clear hst
  rcases hss with hss | hss
  case' inl =>
    have hs1 : decide ((s.size : Int) ≤ 4095) = false := decide_eq_false (by omega)
    clear hss
  case' inr =>
    have hs1 : decide ((s.size : Int) ≤ 4095) = true := decide_eq_true (by omega)
    have ht1 : decide ((t.size : Int) ≤ 4095) = false := decide_eq_false (by omega)
    clear hss
  all_goals go_wp2_with fail
  all_goals (
    go_loopw [14, 15, 16, 17, 18, 19, 20, 21, 22, 23, 24] (fun i _ _ _ _ _ _ _ _ _ _ wr => ∃ k : Nat, i = .int .i64 k ∧ (k = 0 ∨ k = 2 ∨ k = 4) ∧ k ≤ 2 ∧ Below wx.heap.size wx wr) (fun i _ _ _ _ _ _ _ _ _ _ _ => 2 - (intOf i).toNat)
    case atStart => exact ⟨0, rfl, .inl rfl, Nat.zero_le _, Below.refl _ _⟩
    case round =>
      obtain ⟨k, rfl, hk, hkn, hb⟩ := hrel
      have HR := Lib.hid hb
      rcases (show k = 0 ∨ k = 2 by omega) with rfl | rfl
      · obtain ⟨vx, vy, c, d, b1, c1, b2, c2, p, q, tri, e1, e2, m1, m2⟩ := HLS.out.2 0 (by omega) (by omega)
        have hg := World.block_lt_of_cell? _ _ e1
        have hl1 := m1.lt
        have hl2 := m2.lt
        have HM1 := Lib.hid m1
        have HM2 := Lib.hid m2
        have HS := Lib.hid (show ∀ w', Below wx.heap.size wx w' → w'.cell? ⟨g, 0, none⟩ = some (.slice (some ⟨b1, 0, none⟩) 1 c1) ∧ w'.cell? ⟨g, 1, none⟩ = some (.slice (some ⟨b2, 0, none⟩) 1 c2) from fun w' hb => ⟨(hb.cell (p := ⟨g, 0, none⟩) hg).trans e1, (hb.cell (p := ⟨g, 1, none⟩) hg).trans e2⟩)
        clear hb e1 e2 m1 m2 hk hkn
        have hw1 : IntKind.i64.wrap 1 = 1 := by decide
        go_wp2_with fail
        go_region_held3 (fun w' => w'.cell? ⟨g, 0, none⟩ = some (.slice (some ⟨b1, 0, none⟩) 1 c1) ∧ w'.cell? ⟨g, 1, none⟩ = some (.slice (some ⟨b2, 0, none⟩) 1 c2)) (first | exact HS.out _ HR.out.drew | exact HS.out _ (bthen HR.out.drew (by assumption))) (first | (go_at_call 7; refine (asked_any (op := 34) (.inr (.inr (.inl rfl))) p (NodeAt.below HM1.out HR.out.drew hl1) (NodeAt.below HM2.out HR.out.drew hl2)).mono ?_; rintro e w3 ⟨rfl, h3⟩))
        have H0 := Lib.hid (show Below wx.heap.size wx _ from bthen HR.out.drew h3)
        clear h3
        go_wp2_with fail
        go_region_held3 (fun w' => w'.cell? ⟨g, 0, none⟩ = some (.slice (some ⟨b1, 0, none⟩) 1 c1) ∧ w'.cell? ⟨g, 1, none⟩ = some (.slice (some ⟨b2, 0, none⟩) 1 c2)) (first | exact HS.out _ H0.out.drew | exact HS.out _ (bthen H0.out.drew (by assumption))) (first | (go_at_call 7; refine (asked_any (op := 32) (.inl rfl) p (NodeAt.below HM1.out H0.out.drew hl1) (NodeAt.below HM2.out H0.out.drew hl2)).mono ?_; rintro e w3 ⟨rfl, h3⟩))
        have H1 := Lib.hid (show Below wx.heap.size wx _ from bthen H0.out.drew h3)
        clear h3
        go_wp2_with fail
        go_region_held3 (fun w' => w'.cell? ⟨g, 0, none⟩ = some (.slice (some ⟨b1, 0, none⟩) 1 c1) ∧ w'.cell? ⟨g, 1, none⟩ = some (.slice (some ⟨b2, 0, none⟩) 1 c2)) (first | exact HS.out _ H1.out.drew | exact HS.out _ (bthen H1.out.drew (by assumption))) (first | (go_at_call 7; refine (asked_any (op := 34) (.inr (.inr (.inl rfl))) q (NodeAt.below HM2.out H1.out.drew hl2) (NodeAt.below HM1.out H1.out.drew hl1)).mono ?_; rintro e w3 ⟨rfl, h3⟩))
        have H2 := Lib.hid (show Below wx.heap.size wx _ from bthen H1.out.drew h3)
        clear h3
        go_wp2_with fail
        go_region_held3 (fun w' => w'.cell? ⟨g, 0, none⟩ = some (.slice (some ⟨b1, 0, none⟩) 1 c1) ∧ w'.cell? ⟨g, 1, none⟩ = some (.slice (some ⟨b2, 0, none⟩) 1 c2)) (first | exact HS.out _ H2.out.drew | exact HS.out _ (bthen H2.out.drew (by assumption))) (first | (go_at_call 7; refine (asked_any (op := 35) (.inr (.inr (.inr rfl))) p (NodeAt.below HM1.out H2.out.drew hl1) (NodeAt.below HM2.out H2.out.drew hl2)).mono ?_; rintro e w3 ⟨rfl, h3⟩))
        have H3 := Lib.hid (show Below wx.heap.size wx _ from bthen H2.out.drew h3)
        clear h3
        go_wp2_with fail
        go_region_held3 (fun w' => w'.cell? ⟨g, 0, none⟩ = some (.slice (some ⟨b1, 0, none⟩) 1 c1) ∧ w'.cell? ⟨g, 1, none⟩ = some (.slice (some ⟨b2, 0, none⟩) 1 c2)) (first | exact HS.out _ H3.out.drew | exact HS.out _ (bthen H3.out.drew (by assumption))) (first | (go_at_call 7; refine (asked_any (op := 33) (.inr (.inl rfl)) p (NodeAt.below HM1.out H3.out.drew hl1) (NodeAt.below HM2.out H3.out.drew hl2)).mono ?_; rintro e w3 ⟨rfl, h3⟩))
        have H4 := Lib.hid (show Below wx.heap.size wx _ from bthen H3.out.drew h3)
        clear h3
        rcases tri_ops tri with ⟨o1, o2, o3, o4, o5⟩ | ⟨o1, o2, o3, o4, o5⟩ | ⟨o1, o2, o3, o4, o5⟩
        all_goals (
          rw [o1, o2, o3, o4, o5]
          clear o1 o2 o3 o4 o5
          go_wp2_with fail)
        all_goals (
          go_roundw
          case rel => exact ⟨0 + 2, by go_num, by omega, by omega, H4.out⟩
          case measure => simp [intOf])
      · clear hb
        go_wp2_with fail
        refine (wakes_any _).mono ?_
        rintro e w3 ⟨rfl, h3⟩
        have H3 := Lib.hid (bthen HBX.out (bthen' HR.out h3 (Nat.le_refl _)))
        clear h3
        go_wp2_with fail
        go_ret
        exact ⟨rfl, H3.out⟩
  )
end Go.Proofs.Ytakailalhpkfdaa
