/- Two values of one node, of one kind, and an operator that compares: Binary, walked. Printed by a program. -/
import Derived.Test.YtakailalhpkfdaaChd
namespace Go.Proofs.Ytakailalhpkfdaa
open Go.RowKit

theorem look_kind {kd : Int} {i : Nat} (hi : i < 6) (ha : kA i = kd) (hb : kB i = kd) {W : World} {mb c : Nat} {es : Array MapEntry} (hm : W.heap[mb]? = some (.map es c)) (he : Ents (fun _ => true) es) :
    (Instr.lookup 48 (.map (some mb)) (.agg #[.int .u8 kd, .int .u8 kd]) false).run Try.prog W = .ok (.int .i64 (kV i)) W := by
  have := look_run hm he hi rfl
  unfold kK pairV at this
  rwa [ha, hb] at this
/-- What a comparing operator says. -/
def opB (op : Nat) (c : Int) : Bool := if op = 32 then c == 0 else if op = 33 then !(c == 0) else if op = 34 then decide (c < 0) else decide (c < 0) || c == 0
set_option maxRecDepth 100000 in
set_option maxHeartbeats 4000000 in
theorem bin_32_int {i j : Int} {b1 c1 b2 c2 : Nat} {w : World} (hx : NodeAt w b1 0 (intN i)) (hy : NodeAt w b2 0 (intN j)) :
    Calls Try.prog 9 #[.int .u8 32, .slice (some ⟨b1, 0, none⟩) 1 c1, .slice (some ⟨b2, 0, none⟩) 1 c2] w (MkPostE (boolN (opB 32 (cmpI i j))) w) := by
  have HX := Lib.hid hx
  have HY := Lib.hid hy
  have hl1 := hx.lt
  have hl2 := hy.lt
  have hP := Pair1.int i j
  clear hx hy
  obtain ⟨rs, hrs⟩ : ∃ rs, rs = opB 32 (cmpI i j) := ⟨_, rfl⟩
  rw [← hrs]
  go_enter Try.func9, Try.ntmps9
  go_wp2_with fail
  refine (checked_two (b := b1) (c := c1) (d := b2) (f := c2) hP.left hP.right (HX.out.below ((Below.refl _ w).alloc (Nat.le_refl _) _) hl1) (HY.out.below ((Below.refl _ w).alloc (Nat.le_refl _) _) hl2) (by simp) (by simp)).mono ?_
  rintro e w1 ⟨rfl, h1⟩
  have H1 := Lib.hid (show Below w.heap.size w w1 from bthen ((Below.refl _ w).alloc (Nat.le_refl _) _) h1)
  clear h1
  have HS := Lib.hid (show ∀ w', Below w.heap.size w w' → w'.cell? ⟨b1, 0, none⟩ = some (.int .u8 2) ∧ w'.cell? ⟨b2, 0, none⟩ = some (.int .u8 2) from fun w' hb => ⟨(HX.out.below hb hl1).c0, (HY.out.below hb hl2).c0⟩)
  go_wp2_with fail
  go_region_held3 (fun w' => w'.cell? ⟨b1, 0, none⟩ = some (.int .u8 2) ∧ w'.cell? ⟨b2, 0, none⟩ = some (.int .u8 2)) (first | exact HS.out _ H1.out.drew | exact HS.out _ (bthen H1.out.drew (by assumption)) | exact HS.out _ (bthen H1.out (by assumption))) (first | (go_at_call 18; refine (kinds_any _).mono ?_; rintro e w2 ⟨mb, es, cc, rfl, hm, he, hbk⟩; have hlk : (Instr.lookup 48 (.map (some mb)) (.agg #[.int .u8 2, .int .u8 2]) false).run Try.prog w2 = .ok (.int .i64 1) w2 := look_kind (kd := 2) (i := 0) (by omega) rfl rfl hm he))
  have H2 := Lib.hid (show Below w.heap.size w w2 from bthen H1.out.drew hbk)
  clear hlk hbk hm he HS
  go_wp2_with fail
  refine (same_any hP (HX.out.below H2.out hl1) (HY.out.below H2.out hl2)).mono ?_
  rintro e w3 ⟨rfl, h3⟩
  have H3 := Lib.hid (bthen H2.out h3)
  have hz : (((cmpI i j) == 0)) = rs := hrs.symm
  clear h3 hrs
  generalize (cmpI i j) = cr at *
  go_wp2_with fail
  first | (go_wp2_with fail; rw [hz]) | rw [hz] | skip
  refine (mk_bool rs _).mono ?_
  rintro e w4 ⟨b, rfl, hn, hlo, h4⟩
  have HH := Lib.hid (And.intro hn (And.intro hlo h4))
  clear hn hlo h4 hz
  go_wp2_with fail
  go_ret2
  exact ⟨b, rfl, HH.out.1, Nat.le_trans H3.out.size HH.out.2.1, bthen H3.out HH.out.2.2⟩
set_option maxRecDepth 100000 in
set_option maxHeartbeats 4000000 in
theorem bin_33_int {i j : Int} {b1 c1 b2 c2 : Nat} {w : World} (hx : NodeAt w b1 0 (intN i)) (hy : NodeAt w b2 0 (intN j)) :
    Calls Try.prog 9 #[.int .u8 33, .slice (some ⟨b1, 0, none⟩) 1 c1, .slice (some ⟨b2, 0, none⟩) 1 c2] w (MkPostE (boolN (opB 33 (cmpI i j))) w) := by
  have HX := Lib.hid hx
  have HY := Lib.hid hy
  have hl1 := hx.lt
  have hl2 := hy.lt
  have hP := Pair1.int i j
  clear hx hy
  obtain ⟨rs, hrs⟩ : ∃ rs, rs = opB 33 (cmpI i j) := ⟨_, rfl⟩
  rw [← hrs]
  go_enter Try.func9, Try.ntmps9
  go_wp2_with fail
  refine (checked_two (b := b1) (c := c1) (d := b2) (f := c2) hP.left hP.right (HX.out.below ((Below.refl _ w).alloc (Nat.le_refl _) _) hl1) (HY.out.below ((Below.refl _ w).alloc (Nat.le_refl _) _) hl2) (by simp) (by simp)).mono ?_
  rintro e w1 ⟨rfl, h1⟩
  have H1 := Lib.hid (show Below w.heap.size w w1 from bthen ((Below.refl _ w).alloc (Nat.le_refl _) _) h1)
  clear h1
  have HS := Lib.hid (show ∀ w', Below w.heap.size w w' → w'.cell? ⟨b1, 0, none⟩ = some (.int .u8 2) ∧ w'.cell? ⟨b2, 0, none⟩ = some (.int .u8 2) from fun w' hb => ⟨(HX.out.below hb hl1).c0, (HY.out.below hb hl2).c0⟩)
  go_wp2_with fail
  go_region_held3 (fun w' => w'.cell? ⟨b1, 0, none⟩ = some (.int .u8 2) ∧ w'.cell? ⟨b2, 0, none⟩ = some (.int .u8 2)) (first | exact HS.out _ H1.out.drew | exact HS.out _ (bthen H1.out.drew (by assumption)) | exact HS.out _ (bthen H1.out (by assumption))) (first | (go_at_call 18; refine (kinds_any _).mono ?_; rintro e w2 ⟨mb, es, cc, rfl, hm, he, hbk⟩; have hlk : (Instr.lookup 48 (.map (some mb)) (.agg #[.int .u8 2, .int .u8 2]) false).run Try.prog w2 = .ok (.int .i64 1) w2 := look_kind (kd := 2) (i := 0) (by omega) rfl rfl hm he))
  have H2 := Lib.hid (show Below w.heap.size w w2 from bthen H1.out.drew hbk)
  clear hlk hbk hm he HS
  go_wp2_with fail
  refine (same_any hP (HX.out.below H2.out hl1) (HY.out.below H2.out hl2)).mono ?_
  rintro e w3 ⟨rfl, h3⟩
  have H3 := Lib.hid (bthen H2.out h3)
  have hz : (!((cmpI i j) == 0)) = rs := hrs.symm
  clear h3 hrs
  generalize (cmpI i j) = cr at *
  go_wp2_with fail
  first | (go_wp2_with fail; rw [hz]) | rw [hz] | skip
  refine (mk_bool rs _).mono ?_
  rintro e w4 ⟨b, rfl, hn, hlo, h4⟩
  have HH := Lib.hid (And.intro hn (And.intro hlo h4))
  clear hn hlo h4 hz
  go_wp2_with fail
  go_ret2
  exact ⟨b, rfl, HH.out.1, Nat.le_trans H3.out.size HH.out.2.1, bthen H3.out HH.out.2.2⟩
set_option maxRecDepth 100000 in
set_option maxHeartbeats 4000000 in
theorem bin_34_int {i j : Int} {b1 c1 b2 c2 : Nat} {w : World} (hx : NodeAt w b1 0 (intN i)) (hy : NodeAt w b2 0 (intN j)) :
    Calls Try.prog 9 #[.int .u8 34, .slice (some ⟨b1, 0, none⟩) 1 c1, .slice (some ⟨b2, 0, none⟩) 1 c2] w (MkPostE (boolN (opB 34 (cmpI i j))) w) := by
  have HX := Lib.hid hx
  have HY := Lib.hid hy
  have hl1 := hx.lt
  have hl2 := hy.lt
  have hP := Pair1.int i j
  clear hx hy
  obtain ⟨rs, hrs⟩ : ∃ rs, rs = opB 34 (cmpI i j) := ⟨_, rfl⟩
  rw [← hrs]
  go_enter Try.func9, Try.ntmps9
  go_wp2_with fail
  refine (checked_two (b := b1) (c := c1) (d := b2) (f := c2) hP.left hP.right (HX.out.below ((Below.refl _ w).alloc (Nat.le_refl _) _) hl1) (HY.out.below ((Below.refl _ w).alloc (Nat.le_refl _) _) hl2) (by simp) (by simp)).mono ?_
  rintro e w1 ⟨rfl, h1⟩
  have H1 := Lib.hid (show Below w.heap.size w w1 from bthen ((Below.refl _ w).alloc (Nat.le_refl _) _) h1)
  clear h1
  have HS := Lib.hid (show ∀ w', Below w.heap.size w w' → w'.cell? ⟨b1, 0, none⟩ = some (.int .u8 2) ∧ w'.cell? ⟨b2, 0, none⟩ = some (.int .u8 2) from fun w' hb => ⟨(HX.out.below hb hl1).c0, (HY.out.below hb hl2).c0⟩)
  go_wp2_with fail
  go_region_held3 (fun w' => w'.cell? ⟨b1, 0, none⟩ = some (.int .u8 2) ∧ w'.cell? ⟨b2, 0, none⟩ = some (.int .u8 2)) (first | exact HS.out _ H1.out.drew | exact HS.out _ (bthen H1.out.drew (by assumption)) | exact HS.out _ (bthen H1.out (by assumption))) (first | (go_at_call 18; refine (kinds_any _).mono ?_; rintro e w2 ⟨mb, es, cc, rfl, hm, he, hbk⟩; have hlk : (Instr.lookup 48 (.map (some mb)) (.agg #[.int .u8 2, .int .u8 2]) false).run Try.prog w2 = .ok (.int .i64 1) w2 := look_kind (kd := 2) (i := 0) (by omega) rfl rfl hm he))
  have H2 := Lib.hid (show Below w.heap.size w w2 from bthen H1.out.drew hbk)
  clear hlk hbk hm he HS
  go_wp2_with fail
  refine (order_any hP (HX.out.below H2.out hl1) (HY.out.below H2.out hl2)).mono ?_
  rintro e w3 ⟨rfl, h3⟩
  have H3 := Lib.hid (bthen H2.out h3)
  clear h3 hP
  generalize (cmpI i j) = cr at *
  by_cases hc : cr < 0
  · have hd : decide (cr < 0) = true := decide_eq_true hc
    obtain rfl : rs = true := by rw [hrs]; show decide (cr < 0) = true; rw [hd]
    clear hc hrs
    go_wp2_with fail
    refine (mk_bool true _).mono ?_
    rintro e w4 ⟨b, rfl, hn, hlo, h4⟩
    have HH := Lib.hid (And.intro hn (And.intro hlo h4))
    clear hn hlo h4
    go_wp2_with fail
    go_ret2
    exact ⟨b, rfl, HH.out.1, Nat.le_trans H3.out.size HH.out.2.1, bthen H3.out HH.out.2.2⟩
  · have hd : decide (cr < 0) = false := decide_eq_false hc
    obtain rfl : rs = false := by rw [hrs]; show decide (cr < 0) = false; exact hd
    clear hc hrs
    by_cases hz : cr = 0
    · have hz1 : (cr == 0) = true := beq_iff_eq.2 hz
      clear hz
      go_wp2_with fail
      refine (mk_bool false _).mono ?_
      rintro e w4 ⟨b, rfl, hn, hlo, h4⟩
      have HH := Lib.hid (And.intro hn (And.intro hlo h4))
      clear hn hlo h4
      go_wp2_with fail
      go_ret2
      exact ⟨b, rfl, HH.out.1, Nat.le_trans H3.out.size HH.out.2.1, bthen H3.out HH.out.2.2⟩
    · have hz1 : (cr == 0) = false := beq_eq_false_iff_ne.2 hz
      clear hz
      go_wp2_with fail
      refine (mk_bool false _).mono ?_
      rintro e w4 ⟨b, rfl, hn, hlo, h4⟩
      have HH := Lib.hid (And.intro hn (And.intro hlo h4))
      clear hn hlo h4
      go_wp2_with fail
      go_ret2
      exact ⟨b, rfl, HH.out.1, Nat.le_trans H3.out.size HH.out.2.1, bthen H3.out HH.out.2.2⟩
set_option maxRecDepth 100000 in
set_option maxHeartbeats 4000000 in
theorem bin_35_int {i j : Int} {b1 c1 b2 c2 : Nat} {w : World} (hx : NodeAt w b1 0 (intN i)) (hy : NodeAt w b2 0 (intN j)) :
    Calls Try.prog 9 #[.int .u8 35, .slice (some ⟨b1, 0, none⟩) 1 c1, .slice (some ⟨b2, 0, none⟩) 1 c2] w (MkPostE (boolN (opB 35 (cmpI i j))) w) := by
  have HX := Lib.hid hx
  have HY := Lib.hid hy
  have hl1 := hx.lt
  have hl2 := hy.lt
  have hP := Pair1.int i j
  clear hx hy
  obtain ⟨rs, hrs⟩ : ∃ rs, rs = opB 35 (cmpI i j) := ⟨_, rfl⟩
  rw [← hrs]
  go_enter Try.func9, Try.ntmps9
  go_wp2_with fail
  refine (checked_two (b := b1) (c := c1) (d := b2) (f := c2) hP.left hP.right (HX.out.below ((Below.refl _ w).alloc (Nat.le_refl _) _) hl1) (HY.out.below ((Below.refl _ w).alloc (Nat.le_refl _) _) hl2) (by simp) (by simp)).mono ?_
  rintro e w1 ⟨rfl, h1⟩
  have H1 := Lib.hid (show Below w.heap.size w w1 from bthen ((Below.refl _ w).alloc (Nat.le_refl _) _) h1)
  clear h1
  have HS := Lib.hid (show ∀ w', Below w.heap.size w w' → w'.cell? ⟨b1, 0, none⟩ = some (.int .u8 2) ∧ w'.cell? ⟨b2, 0, none⟩ = some (.int .u8 2) from fun w' hb => ⟨(HX.out.below hb hl1).c0, (HY.out.below hb hl2).c0⟩)
  go_wp2_with fail
  go_region_held3 (fun w' => w'.cell? ⟨b1, 0, none⟩ = some (.int .u8 2) ∧ w'.cell? ⟨b2, 0, none⟩ = some (.int .u8 2)) (first | exact HS.out _ H1.out.drew | exact HS.out _ (bthen H1.out.drew (by assumption)) | exact HS.out _ (bthen H1.out (by assumption))) (first | (go_at_call 18; refine (kinds_any _).mono ?_; rintro e w2 ⟨mb, es, cc, rfl, hm, he, hbk⟩; have hlk : (Instr.lookup 48 (.map (some mb)) (.agg #[.int .u8 2, .int .u8 2]) false).run Try.prog w2 = .ok (.int .i64 1) w2 := look_kind (kd := 2) (i := 0) (by omega) rfl rfl hm he))
  have H2 := Lib.hid (show Below w.heap.size w w2 from bthen H1.out.drew hbk)
  clear hlk hbk hm he HS
  go_wp2_with fail
  refine (order_any hP (HX.out.below H2.out hl1) (HY.out.below H2.out hl2)).mono ?_
  rintro e w3 ⟨rfl, h3⟩
  have H3 := Lib.hid (bthen H2.out h3)
  clear h3 hP
  generalize (cmpI i j) = cr at *
  by_cases hc : cr < 0
  · have hd : decide (cr < 0) = true := decide_eq_true hc
    obtain rfl : rs = true := by rw [hrs]; show (decide (cr < 0) || cr == 0) = true; rw [hd]; rfl
    clear hc hrs
    go_wp2_with fail
    refine (mk_bool true _).mono ?_
    rintro e w4 ⟨b, rfl, hn, hlo, h4⟩
    have HH := Lib.hid (And.intro hn (And.intro hlo h4))
    clear hn hlo h4
    go_wp2_with fail
    go_ret2
    exact ⟨b, rfl, HH.out.1, Nat.le_trans H3.out.size HH.out.2.1, bthen H3.out HH.out.2.2⟩
  · have hd : decide (cr < 0) = false := decide_eq_false hc
    by_cases hz : cr = 0
    · have hz1 : (cr == 0) = true := beq_iff_eq.2 hz
      obtain rfl : rs = true := by rw [hrs]; show (decide (cr < 0) || cr == 0) = true; rw [hd, hz1]; rfl
      clear hz hc hrs
      go_wp2_with fail
      refine (mk_bool true _).mono ?_
      rintro e w4 ⟨b, rfl, hn, hlo, h4⟩
      have HH := Lib.hid (And.intro hn (And.intro hlo h4))
      clear hn hlo h4
      go_wp2_with fail
      go_ret2
      exact ⟨b, rfl, HH.out.1, Nat.le_trans H3.out.size HH.out.2.1, bthen H3.out HH.out.2.2⟩
    · have hz1 : (cr == 0) = false := beq_eq_false_iff_ne.2 hz
      obtain rfl : rs = false := by rw [hrs]; show (decide (cr < 0) || cr == 0) = false; rw [hd, hz1]; rfl
      clear hz hc hrs
      go_wp2_with fail
      refine (mk_bool false _).mono ?_
      rintro e w4 ⟨b, rfl, hn, hlo, h4⟩
      have HH := Lib.hid (And.intro hn (And.intro hlo h4))
      clear hn hlo h4
      go_wp2_with fail
      go_ret2
      exact ⟨b, rfl, HH.out.1, Nat.le_trans H3.out.size HH.out.2.1, bthen H3.out HH.out.2.2⟩
set_option maxRecDepth 100000 in
set_option maxHeartbeats 4000000 in
theorem bin_32_text {s t : ByteArray} (hs : s.size ≤ 4095) (ht : t.size ≤ 4095) {b1 c1 b2 c2 : Nat} {w : World} (hx : NodeAt w b1 0 (textN s)) (hy : NodeAt w b2 0 (textN t)) :
    Calls Try.prog 9 #[.int .u8 32, .slice (some ⟨b1, 0, none⟩) 1 c1, .slice (some ⟨b2, 0, none⟩) 1 c2] w (MkPostE (boolN (opB 32 (Lib.compareBytes s.data.toList t.data.toList))) w) := by
  have HX := Lib.hid hx
  have HY := Lib.hid hy
  have hl1 := hx.lt
  have hl2 := hy.lt
  have hP := Pair1.text s t hs ht
  clear hx hy
  obtain ⟨rs, hrs⟩ : ∃ rs, rs = opB 32 (Lib.compareBytes s.data.toList t.data.toList) := ⟨_, rfl⟩
  rw [← hrs]
  go_enter Try.func9, Try.ntmps9
  go_wp2_with fail
  refine (checked_two (b := b1) (c := c1) (d := b2) (f := c2) hP.left hP.right (HX.out.below ((Below.refl _ w).alloc (Nat.le_refl _) _) hl1) (HY.out.below ((Below.refl _ w).alloc (Nat.le_refl _) _) hl2) (by simp) (by simp)).mono ?_
  rintro e w1 ⟨rfl, h1⟩
  have H1 := Lib.hid (show Below w.heap.size w w1 from bthen ((Below.refl _ w).alloc (Nat.le_refl _) _) h1)
  clear h1
  have HS := Lib.hid (show ∀ w', Below w.heap.size w w' → w'.cell? ⟨b1, 0, none⟩ = some (.int .u8 3) ∧ w'.cell? ⟨b2, 0, none⟩ = some (.int .u8 3) from fun w' hb => ⟨(HX.out.below hb hl1).c0, (HY.out.below hb hl2).c0⟩)
  go_wp2_with fail
  go_region_held3 (fun w' => w'.cell? ⟨b1, 0, none⟩ = some (.int .u8 3) ∧ w'.cell? ⟨b2, 0, none⟩ = some (.int .u8 3)) (first | exact HS.out _ H1.out.drew | exact HS.out _ (bthen H1.out.drew (by assumption)) | exact HS.out _ (bthen H1.out (by assumption))) (first | (go_at_call 18; refine (kinds_any _).mono ?_; rintro e w2 ⟨mb, es, cc, rfl, hm, he, hbk⟩; have hlk : (Instr.lookup 48 (.map (some mb)) (.agg #[.int .u8 3, .int .u8 3]) false).run Try.prog w2 = .ok (.int .i64 3) w2 := look_kind (kd := 3) (i := 4) (by omega) rfl rfl hm he))
  have H2 := Lib.hid (show Below w.heap.size w w2 from bthen H1.out.drew hbk)
  clear hlk hbk hm he HS
  go_wp2_with fail
  refine (same_any hP (HX.out.below H2.out hl1) (HY.out.below H2.out hl2)).mono ?_
  rintro e w3 ⟨rfl, h3⟩
  have H3 := Lib.hid (bthen H2.out h3)
  have hz : (((Lib.compareBytes s.data.toList t.data.toList) == 0)) = rs := hrs.symm
  clear h3 hrs
  generalize (Lib.compareBytes s.data.toList t.data.toList) = cr at *
  go_wp2_with fail
  first | (go_wp2_with fail; rw [hz]) | rw [hz] | skip
  refine (mk_bool rs _).mono ?_
  rintro e w4 ⟨b, rfl, hn, hlo, h4⟩
  have HH := Lib.hid (And.intro hn (And.intro hlo h4))
  clear hn hlo h4 hz
  go_wp2_with fail
  go_ret2
  exact ⟨b, rfl, HH.out.1, Nat.le_trans H3.out.size HH.out.2.1, bthen H3.out HH.out.2.2⟩
set_option maxRecDepth 100000 in
set_option maxHeartbeats 4000000 in
theorem bin_33_text {s t : ByteArray} (hs : s.size ≤ 4095) (ht : t.size ≤ 4095) {b1 c1 b2 c2 : Nat} {w : World} (hx : NodeAt w b1 0 (textN s)) (hy : NodeAt w b2 0 (textN t)) :
    Calls Try.prog 9 #[.int .u8 33, .slice (some ⟨b1, 0, none⟩) 1 c1, .slice (some ⟨b2, 0, none⟩) 1 c2] w (MkPostE (boolN (opB 33 (Lib.compareBytes s.data.toList t.data.toList))) w) := by
  have HX := Lib.hid hx
  have HY := Lib.hid hy
  have hl1 := hx.lt
  have hl2 := hy.lt
  have hP := Pair1.text s t hs ht
  clear hx hy
  obtain ⟨rs, hrs⟩ : ∃ rs, rs = opB 33 (Lib.compareBytes s.data.toList t.data.toList) := ⟨_, rfl⟩
  rw [← hrs]
  go_enter Try.func9, Try.ntmps9
  go_wp2_with fail
  refine (checked_two (b := b1) (c := c1) (d := b2) (f := c2) hP.left hP.right (HX.out.below ((Below.refl _ w).alloc (Nat.le_refl _) _) hl1) (HY.out.below ((Below.refl _ w).alloc (Nat.le_refl _) _) hl2) (by simp) (by simp)).mono ?_
  rintro e w1 ⟨rfl, h1⟩
  have H1 := Lib.hid (show Below w.heap.size w w1 from bthen ((Below.refl _ w).alloc (Nat.le_refl _) _) h1)
  clear h1
  have HS := Lib.hid (show ∀ w', Below w.heap.size w w' → w'.cell? ⟨b1, 0, none⟩ = some (.int .u8 3) ∧ w'.cell? ⟨b2, 0, none⟩ = some (.int .u8 3) from fun w' hb => ⟨(HX.out.below hb hl1).c0, (HY.out.below hb hl2).c0⟩)
  go_wp2_with fail
  go_region_held3 (fun w' => w'.cell? ⟨b1, 0, none⟩ = some (.int .u8 3) ∧ w'.cell? ⟨b2, 0, none⟩ = some (.int .u8 3)) (first | exact HS.out _ H1.out.drew | exact HS.out _ (bthen H1.out.drew (by assumption)) | exact HS.out _ (bthen H1.out (by assumption))) (first | (go_at_call 18; refine (kinds_any _).mono ?_; rintro e w2 ⟨mb, es, cc, rfl, hm, he, hbk⟩; have hlk : (Instr.lookup 48 (.map (some mb)) (.agg #[.int .u8 3, .int .u8 3]) false).run Try.prog w2 = .ok (.int .i64 3) w2 := look_kind (kd := 3) (i := 4) (by omega) rfl rfl hm he))
  have H2 := Lib.hid (show Below w.heap.size w w2 from bthen H1.out.drew hbk)
  clear hlk hbk hm he HS
  go_wp2_with fail
  refine (same_any hP (HX.out.below H2.out hl1) (HY.out.below H2.out hl2)).mono ?_
  rintro e w3 ⟨rfl, h3⟩
  have H3 := Lib.hid (bthen H2.out h3)
  have hz : (!((Lib.compareBytes s.data.toList t.data.toList) == 0)) = rs := hrs.symm
  clear h3 hrs
  generalize (Lib.compareBytes s.data.toList t.data.toList) = cr at *
  go_wp2_with fail
  first | (go_wp2_with fail; rw [hz]) | rw [hz] | skip
  refine (mk_bool rs _).mono ?_
  rintro e w4 ⟨b, rfl, hn, hlo, h4⟩
  have HH := Lib.hid (And.intro hn (And.intro hlo h4))
  clear hn hlo h4 hz
  go_wp2_with fail
  go_ret2
  exact ⟨b, rfl, HH.out.1, Nat.le_trans H3.out.size HH.out.2.1, bthen H3.out HH.out.2.2⟩
set_option maxRecDepth 100000 in
set_option maxHeartbeats 4000000 in
theorem bin_34_text {s t : ByteArray} (hs : s.size ≤ 4095) (ht : t.size ≤ 4095) {b1 c1 b2 c2 : Nat} {w : World} (hx : NodeAt w b1 0 (textN s)) (hy : NodeAt w b2 0 (textN t)) :
    Calls Try.prog 9 #[.int .u8 34, .slice (some ⟨b1, 0, none⟩) 1 c1, .slice (some ⟨b2, 0, none⟩) 1 c2] w (MkPostE (boolN (opB 34 (Lib.compareBytes s.data.toList t.data.toList))) w) := by
  have HX := Lib.hid hx
  have HY := Lib.hid hy
  have hl1 := hx.lt
  have hl2 := hy.lt
  have hP := Pair1.text s t hs ht
  clear hx hy
  obtain ⟨rs, hrs⟩ : ∃ rs, rs = opB 34 (Lib.compareBytes s.data.toList t.data.toList) := ⟨_, rfl⟩
  rw [← hrs]
  go_enter Try.func9, Try.ntmps9
  go_wp2_with fail
  refine (checked_two (b := b1) (c := c1) (d := b2) (f := c2) hP.left hP.right (HX.out.below ((Below.refl _ w).alloc (Nat.le_refl _) _) hl1) (HY.out.below ((Below.refl _ w).alloc (Nat.le_refl _) _) hl2) (by simp) (by simp)).mono ?_
  rintro e w1 ⟨rfl, h1⟩
  have H1 := Lib.hid (show Below w.heap.size w w1 from bthen ((Below.refl _ w).alloc (Nat.le_refl _) _) h1)
  clear h1
  have HS := Lib.hid (show ∀ w', Below w.heap.size w w' → w'.cell? ⟨b1, 0, none⟩ = some (.int .u8 3) ∧ w'.cell? ⟨b2, 0, none⟩ = some (.int .u8 3) from fun w' hb => ⟨(HX.out.below hb hl1).c0, (HY.out.below hb hl2).c0⟩)
  go_wp2_with fail
  go_region_held3 (fun w' => w'.cell? ⟨b1, 0, none⟩ = some (.int .u8 3) ∧ w'.cell? ⟨b2, 0, none⟩ = some (.int .u8 3)) (first | exact HS.out _ H1.out.drew | exact HS.out _ (bthen H1.out.drew (by assumption)) | exact HS.out _ (bthen H1.out (by assumption))) (first | (go_at_call 18; refine (kinds_any _).mono ?_; rintro e w2 ⟨mb, es, cc, rfl, hm, he, hbk⟩; have hlk : (Instr.lookup 48 (.map (some mb)) (.agg #[.int .u8 3, .int .u8 3]) false).run Try.prog w2 = .ok (.int .i64 3) w2 := look_kind (kd := 3) (i := 4) (by omega) rfl rfl hm he))
  have H2 := Lib.hid (show Below w.heap.size w w2 from bthen H1.out.drew hbk)
  clear hlk hbk hm he HS
  go_wp2_with fail
  refine (order_any hP (HX.out.below H2.out hl1) (HY.out.below H2.out hl2)).mono ?_
  rintro e w3 ⟨rfl, h3⟩
  have H3 := Lib.hid (bthen H2.out h3)
  clear h3 hP
  generalize (Lib.compareBytes s.data.toList t.data.toList) = cr at *
  by_cases hc : cr < 0
  · have hd : decide (cr < 0) = true := decide_eq_true hc
    obtain rfl : rs = true := by rw [hrs]; show decide (cr < 0) = true; rw [hd]
    clear hc hrs
    go_wp2_with fail
    refine (mk_bool true _).mono ?_
    rintro e w4 ⟨b, rfl, hn, hlo, h4⟩
    have HH := Lib.hid (And.intro hn (And.intro hlo h4))
    clear hn hlo h4
    go_wp2_with fail
    go_ret2
    exact ⟨b, rfl, HH.out.1, Nat.le_trans H3.out.size HH.out.2.1, bthen H3.out HH.out.2.2⟩
  · have hd : decide (cr < 0) = false := decide_eq_false hc
    obtain rfl : rs = false := by rw [hrs]; show decide (cr < 0) = false; exact hd
    clear hc hrs
    by_cases hz : cr = 0
    · have hz1 : (cr == 0) = true := beq_iff_eq.2 hz
      clear hz
      go_wp2_with fail
      refine (mk_bool false _).mono ?_
      rintro e w4 ⟨b, rfl, hn, hlo, h4⟩
      have HH := Lib.hid (And.intro hn (And.intro hlo h4))
      clear hn hlo h4
      go_wp2_with fail
      go_ret2
      exact ⟨b, rfl, HH.out.1, Nat.le_trans H3.out.size HH.out.2.1, bthen H3.out HH.out.2.2⟩
    · have hz1 : (cr == 0) = false := beq_eq_false_iff_ne.2 hz
      clear hz
      go_wp2_with fail
      refine (mk_bool false _).mono ?_
      rintro e w4 ⟨b, rfl, hn, hlo, h4⟩
      have HH := Lib.hid (And.intro hn (And.intro hlo h4))
      clear hn hlo h4
      go_wp2_with fail
      go_ret2
      exact ⟨b, rfl, HH.out.1, Nat.le_trans H3.out.size HH.out.2.1, bthen H3.out HH.out.2.2⟩
set_option maxRecDepth 100000 in
set_option maxHeartbeats 4000000 in
theorem bin_35_text {s t : ByteArray} (hs : s.size ≤ 4095) (ht : t.size ≤ 4095) {b1 c1 b2 c2 : Nat} {w : World} (hx : NodeAt w b1 0 (textN s)) (hy : NodeAt w b2 0 (textN t)) :
    Calls Try.prog 9 #[.int .u8 35, .slice (some ⟨b1, 0, none⟩) 1 c1, .slice (some ⟨b2, 0, none⟩) 1 c2] w (MkPostE (boolN (opB 35 (Lib.compareBytes s.data.toList t.data.toList))) w) := by
  have HX := Lib.hid hx
  have HY := Lib.hid hy
  have hl1 := hx.lt
  have hl2 := hy.lt
  have hP := Pair1.text s t hs ht
  clear hx hy
  obtain ⟨rs, hrs⟩ : ∃ rs, rs = opB 35 (Lib.compareBytes s.data.toList t.data.toList) := ⟨_, rfl⟩
  rw [← hrs]
  go_enter Try.func9, Try.ntmps9
  go_wp2_with fail
  refine (checked_two (b := b1) (c := c1) (d := b2) (f := c2) hP.left hP.right (HX.out.below ((Below.refl _ w).alloc (Nat.le_refl _) _) hl1) (HY.out.below ((Below.refl _ w).alloc (Nat.le_refl _) _) hl2) (by simp) (by simp)).mono ?_
  rintro e w1 ⟨rfl, h1⟩
  have H1 := Lib.hid (show Below w.heap.size w w1 from bthen ((Below.refl _ w).alloc (Nat.le_refl _) _) h1)
  clear h1
  have HS := Lib.hid (show ∀ w', Below w.heap.size w w' → w'.cell? ⟨b1, 0, none⟩ = some (.int .u8 3) ∧ w'.cell? ⟨b2, 0, none⟩ = some (.int .u8 3) from fun w' hb => ⟨(HX.out.below hb hl1).c0, (HY.out.below hb hl2).c0⟩)
  go_wp2_with fail
  go_region_held3 (fun w' => w'.cell? ⟨b1, 0, none⟩ = some (.int .u8 3) ∧ w'.cell? ⟨b2, 0, none⟩ = some (.int .u8 3)) (first | exact HS.out _ H1.out.drew | exact HS.out _ (bthen H1.out.drew (by assumption)) | exact HS.out _ (bthen H1.out (by assumption))) (first | (go_at_call 18; refine (kinds_any _).mono ?_; rintro e w2 ⟨mb, es, cc, rfl, hm, he, hbk⟩; have hlk : (Instr.lookup 48 (.map (some mb)) (.agg #[.int .u8 3, .int .u8 3]) false).run Try.prog w2 = .ok (.int .i64 3) w2 := look_kind (kd := 3) (i := 4) (by omega) rfl rfl hm he))
  have H2 := Lib.hid (show Below w.heap.size w w2 from bthen H1.out.drew hbk)
  clear hlk hbk hm he HS
  go_wp2_with fail
  refine (order_any hP (HX.out.below H2.out hl1) (HY.out.below H2.out hl2)).mono ?_
  rintro e w3 ⟨rfl, h3⟩
  have H3 := Lib.hid (bthen H2.out h3)
  clear h3 hP
  generalize (Lib.compareBytes s.data.toList t.data.toList) = cr at *
  by_cases hc : cr < 0
  · have hd : decide (cr < 0) = true := decide_eq_true hc
    obtain rfl : rs = true := by rw [hrs]; show (decide (cr < 0) || cr == 0) = true; rw [hd]; rfl
    clear hc hrs
    go_wp2_with fail
    refine (mk_bool true _).mono ?_
    rintro e w4 ⟨b, rfl, hn, hlo, h4⟩
    have HH := Lib.hid (And.intro hn (And.intro hlo h4))
    clear hn hlo h4
    go_wp2_with fail
    go_ret2
    exact ⟨b, rfl, HH.out.1, Nat.le_trans H3.out.size HH.out.2.1, bthen H3.out HH.out.2.2⟩
  · have hd : decide (cr < 0) = false := decide_eq_false hc
    by_cases hz : cr = 0
    · have hz1 : (cr == 0) = true := beq_iff_eq.2 hz
      obtain rfl : rs = true := by rw [hrs]; show (decide (cr < 0) || cr == 0) = true; rw [hd, hz1]; rfl
      clear hz hc hrs
      go_wp2_with fail
      refine (mk_bool true _).mono ?_
      rintro e w4 ⟨b, rfl, hn, hlo, h4⟩
      have HH := Lib.hid (And.intro hn (And.intro hlo h4))
      clear hn hlo h4
      go_wp2_with fail
      go_ret2
      exact ⟨b, rfl, HH.out.1, Nat.le_trans H3.out.size HH.out.2.1, bthen H3.out HH.out.2.2⟩
    · have hz1 : (cr == 0) = false := beq_eq_false_iff_ne.2 hz
      obtain rfl : rs = false := by rw [hrs]; show (decide (cr < 0) || cr == 0) = false; rw [hd, hz1]; rfl
      clear hz hc hrs
      go_wp2_with fail
      refine (mk_bool false _).mono ?_
      rintro e w4 ⟨b, rfl, hn, hlo, h4⟩
      have HH := Lib.hid (And.intro hn (And.intro hlo h4))
      clear hn hlo h4
      go_wp2_with fail
      go_ret2
      exact ⟨b, rfl, HH.out.1, Nat.le_trans H3.out.size HH.out.2.1, bthen H3.out HH.out.2.2⟩
/-- An operator that compares, at two values of one node of one kind. -/
theorem bin_any {op : Nat} (hop : op = 32 ∨ op = 33 ∨ op = 34 ∨ op = 35) {x y : Node} {c : Int} (h : Pair1 x y c) {b1 c1 b2 c2 : Nat} {w : World} (hx : NodeAt w b1 0 x) (hy : NodeAt w b2 0 y) :
    Calls Try.prog 9 #[.int .u8 (op : Int), .slice (some ⟨b1, 0, none⟩) 1 c1, .slice (some ⟨b2, 0, none⟩) 1 c2] w (MkPostE (boolN (opB op c)) w) := by
  cases h with
  | int i j =>
    rcases hop with rfl | rfl | rfl | rfl
    · exact bin_32_int hx hy
    · exact bin_33_int hx hy
    · exact bin_34_int hx hy
    · exact bin_35_int hx hy
  | text s t hs ht =>
    rcases hop with rfl | rfl | rfl | rfl
    · exact bin_32_text hs ht hx hy
    · exact bin_33_text hs ht hx hy
    · exact bin_34_text hs ht hx hy
    · exact bin_35_text hs ht hx hy
end Go.Proofs.Ytakailalhpkfdaa
