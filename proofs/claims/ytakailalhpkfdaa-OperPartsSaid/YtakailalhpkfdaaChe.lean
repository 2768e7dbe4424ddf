/- Values of one node: Check, walked. -/
import Derived.Test.YtakailalhpkfdaaMea
namespace Go.Proofs.Ytakailalhpkfdaa
open Go.RowKit Go.Shelf

attribute [local go_sem] Oper.semAt_some
theorem keeps_below {W W' : World} (h : Below W.heap.size W W') : KeepsOthers W W' := ⟨h.size, fun k _ hk _ => (h.block k (Array.getElem?_eq_some_iff.1 hk).1).trans hk⟩
theorem boxed_below {W W' : World} {B : Nat} {t : TypeId} {v : Value} (h : Boxed W B t v) (hb : Below W.heap.size W W') : Boxed W' B t v := (hb.block B h.lt).trans h
def lastP (pre : List Unit) : Int := if pre.length = 0 then 1 else 0
def atP (pre : List Unit) : Int := if pre.length = 0 then 0 else 1
set_option maxRecDepth 100000 in
set_option maxHeartbeats 2000000 in
theorem check1_any {b c : Nat} {x : Node} {w : World} (hx : Plain1 x) (hc : NodeAt w b 0 x) : Calls Try.prog 44 #[.slice (some ⟨b, 0, none⟩) 1 c] w (RetB (.int .i64 0) w) := by
  have hsc := store_cx
  refine (callsIn_wide (n := 6)).1 ?_
  refine callsIn_of_wp_marks Try.func44 rfl trivial ?_ rfl
  simp only [Try.ntmps44, List.size_toArray, List.length_cons, List.length_nil, Nat.reduceAdd, Nat.reduceSub, Array.replicate_succ, Array.replicate_zero, List.push_toArray, List.append_toArray, List.nil_append, List.cons_append]
  gi_wp2_with fail
  refine ⟨trivial, ?_⟩
  refine (callsIn_wide.2 (nodes_any _ _ _ _)).mono ?_
  rintro e w' ⟨rfl, rfl⟩
  gi_wp2_with fail
  have bV := (((((Boxed.new w 23 (.slice (some ⟨b, 0, none⟩) 1 c)).alloc (.cells #[.int .i64 0] 26)).alloc (.cells #[.int .i64 1] 3)).alloc (.cells #[.int .i64 0] 3)).alloc (.cells #[.slice (some ⟨b, 0, none⟩) 1 c] 23))
  have bE := ((((Boxed.new (w.alloc (.cells #[.slice (some ⟨b, 0, none⟩) 1 c] 23)) 26 (.int .i64 0)).alloc (.cells #[.int .i64 1] 3)).alloc (.cells #[.int .i64 0] 3)).alloc (.cells #[.slice (some ⟨b, 0, none⟩) 1 c] 23))
  have bL := (((Boxed.new ((w.alloc (.cells #[.slice (some ⟨b, 0, none⟩) 1 c] 23)).alloc (.cells #[.int .i64 0] 26)) 3 (.int .i64 1)).alloc (.cells #[.int .i64 0] 3)).alloc (.cells #[.slice (some ⟨b, 0, none⟩) 1 c] 23))
  have bA := ((Boxed.new (((w.alloc (.cells #[.slice (some ⟨b, 0, none⟩) 1 c] 23)).alloc (.cells #[.int .i64 0] 26)).alloc (.cells #[.int .i64 1] 3)) 3 (.int .i64 0)).alloc (.cells #[.slice (some ⟨b, 0, none⟩) 1 c] 23))
  have bN := Boxed.new ((((w.alloc (.cells #[.slice (some ⟨b, 0, none⟩) 1 c] 23)).alloc (.cells #[.int .i64 0] 26)).alloc (.cells #[.int .i64 1] 3)).alloc (.cells #[.int .i64 0] 3)) 23 (.slice (some ⟨b, 0, none⟩) 1 c)
  simp only [World.size_alloc] at bE bL bA bN
  have hB0 : Below w.heap.size w (((((w.alloc (.cells #[.slice (some ⟨b, 0, none⟩) 1 c] 23)).alloc (.cells #[.int .i64 0] 26)).alloc (.cells #[.int .i64 1] 3)).alloc (.cells #[.int .i64 0] 3)).alloc (.cells #[.slice (some ⟨b, 0, none⟩) 1 c] 23)) := by go_grown
  have hsz : (((((w.alloc (.cells #[.slice (some ⟨b, 0, none⟩) 1 c] 23)).alloc (.cells #[.int .i64 0] 26)).alloc (.cells #[.int .i64 1] 3)).alloc (.cells #[.int .i64 0] 3)).alloc (.cells #[.slice (some ⟨b, 0, none⟩) 1 c] 23)).heap.size = w.heap.size + 5 := by simp
  generalize (((((w.alloc (.cells #[.slice (some ⟨b, 0, none⟩) 1 c] 23)).alloc (.cells #[.int .i64 0] 26)).alloc (.cells #[.int .i64 1] 3)).alloc (.cells #[.int .i64 0] 3)).alloc (.cells #[.slice (some ⟨b, 0, none⟩) 1 c] 23)) = W0 at *
  refine wpIn_rangeFunc_ownH (F := Fence.wide) (n := 6) (P := Try.prog) rfl (by omega) (gf := 77) (lb := #[.pointer (some ⟨w.heap.size + 1 + 1 + 1 + 1, 0, none⟩)]) rfl trivial (enters_of Try.func77 (by kernel_rfl) rfl)
    (stops1 5 (by omega) (w.heap.size + 1 + 1 + 1 + 1) w.heap.size b c x hx W0 (by omega) (by omega) bN.cell hc.lt (hc.below hB0 hc.lt)) belowK_t (belowK_b (by omega)) (Below.refl _ _) (fun _ => rfl)
    (fun pre W => ((Boxed W w.heap.size 23 (.slice (some ⟨b, 0, none⟩) 1 c) ∧ Boxed W (w.heap.size + 1) 26 (.int .i64 0)) ∧ (Boxed W (w.heap.size + 1 + 1) 3 (.int .i64 (lastP pre)) ∧ Boxed W (w.heap.size + 1 + 1 + 1) 3 (.int .i64 (atP pre)))) ∧ Below w.heap.size w W)
    (fun _ _ _ => False)
    (OwnFrom.and (OwnFrom.and (OwnFrom.and (Own.from (boxed_own _ _ _) _) (Own.from (boxed_own _ _ _) _)) (OwnFrom.and (Own.from (boxed_own _ _ _) _) (Own.from (boxed_own _ _ _) _))) (ownFrom_below (Nat.le_refl _) (by omega)))
    (fun _ _ _ _ _ hs _ _ => hs)
    ⟨⟨⟨bV, bE⟩, bL, bA⟩, hB0⟩
    (fun _ a' W => ∃ Bx, w.heap.size + 1 + 1 + 1 < Bx ∧ NodeAt W Bx 0 x ∧ a' = { tmps := #[.slice (some ⟨b, 0, none⟩) 1 c, .pointer (some ⟨w.heap.size, 0, none⟩), .pointer (some ⟨w.heap.size + 1, 0, none⟩), .pointer (some ⟨w.heap.size + 1 + 1, 0, none⟩), .pointer (some ⟨w.heap.size + 1 + 1 + 1, 0, none⟩), .pointer (some ⟨Bx, 0, none⟩), .int .i64 0, .slice (some ⟨b, 0, none⟩) 1 c, .int .i64 1, .bool false, .slice (some ⟨b, 0, none⟩) 1 c, .func (.func 77) #[] #[.pointer (some ⟨w.heap.size + 1 + 1 + 1 + 1, 0, none⟩)], x.val, .int .i64 0, undef, undef, undef, undef, undef, undef, undef, undef, undef, undef, undef, undef, undef, undef, undef, undef, undef, undef, undef, undef, undef], defers := [] })
    (fun _ a' _ X Y row hs hg hr => by obtain ⟨Bx, h1, h2, h3⟩ := hs; exact ⟨Bx, h1, node_own _ Bx x () X Y row h2 hg hr, h3⟩)
    ?assign ?body ?done ?stop
  case assign =>
    rintro l pre _ W K ⟨⟨⟨bV1, bE1⟩, bL1, bA1⟩, hB1⟩ hK
    obtain ⟨kd, ks, it, tx, re, im⟩ := x
    unfold Node.val
    gi_wp2
    exact hK _ _ ((KeepsOthers.alloc _ _).from _) ((Below.refl _ W).alloc hB1.size _) ⟨⟨⟨bV1.alloc _, bE1.alloc _⟩, bL1.alloc _, bA1.alloc _⟩, hB1.alloc hB1.size _⟩ ⟨W.heap.size, bA1.lt, node_new W W.heap.size rfl ⟨kd, ks, it, tx, re, im⟩ _, rfl⟩
  case body =>
    rintro l pre _ a' W hl ⟨r, hr⟩ ⟨⟨⟨bV1, bE1⟩, bL1, bA1⟩, hB1⟩ ⟨Bx, hBx, hN, rfl⟩ hlt
    obtain rfl : pre = [] := List.eq_nil_of_length_eq_zero (by omega)
    have h1' : 1 ≤ 6 - 1 - 1 := by omega
    have cA := bA1.cell
    have fA := bA1.frozen
    have fL := bL1.frozen
    have hm : atP [] = 0 := rfl
    rw [hm] at cA
    obtain ⟨c0, c1, c2, c3, c4⟩ := hN
    rw [Nat.zero_add] at c1 c2 c3 c4
    have hRi := Lib.hid (right_any hx)
    unfold Node.val at hRi
    gi_wp2_with fail
    refine ⟨trivial, ?_⟩
    refine (CallsIn.inRound l (callsIn_wide.2 (hRi.out _))).mono ?_
    rintro e W2 ⟨rfl, hb2⟩
    have kp := Lib.hid (((KeepsOthers.setCell W ⟨w.heap.size + 1 + 1 + 1, 0, none⟩ (.int .i64 1)).trans (keeps_below hb2)))
    have bA2 := boxed_below (bA1.set (.int .i64 1)) hb2
    have bV2 := boxed_below (bV1.other (by omega) (.int .i64 1) : Boxed (W.setCell ⟨w.heap.size + 1 + 1 + 1, 0, none⟩ (.int .i64 1)) _ _ _) hb2
    have bE2 := boxed_below (bE1.other (by omega) (.int .i64 1) : Boxed (W.setCell ⟨w.heap.size + 1 + 1 + 1, 0, none⟩ (.int .i64 1)) _ _ _) hb2
    have bL2 := boxed_below (bL1.other (by omega) (.int .i64 1) : Boxed (W.setCell ⟨w.heap.size + 1 + 1 + 1, 0, none⟩ (.int .i64 1)) _ _ _) hb2
    have BW := Lib.hid (((Below.refl w.heap.size W).setCell (p := ⟨w.heap.size + 1 + 1 + 1, 0, none⟩) (by simp; omega) (.int .i64 1)).trans (hb2.mono (by simp; exact hB1.size)))
    have cA2 := bA2.cell
    have cV2 := bV2.cell
    have fL2 := bL2.frozen
    have cL2 := bL2.cell
    have BL3 := Lib.hid (bL2.set (.int .i64 0))
    have BA3 := Lib.hid (bA2.other (by omega) (.int .i64 0) : Boxed (W2.setCell ⟨w.heap.size + 1 + 1, 0, none⟩ (.int .i64 0)) _ _ _)
    have BV3 := Lib.hid (bV2.other (by omega) (.int .i64 0) : Boxed (W2.setCell ⟨w.heap.size + 1 + 1, 0, none⟩ (.int .i64 0)) _ _ _)
    have BE3 := Lib.hid (bE2.other (by omega) (.int .i64 0) : Boxed (W2.setCell ⟨w.heap.size + 1 + 1, 0, none⟩ (.int .i64 0)) _ _ _)
    have HB1 := Lib.hid hB1
    clear hb2 bA2 bV2 bE2 bL2 bA1 bV1 bE1 bL1 cA fA fL c0 c1 c2 c3 c4 hRi hr hB1
    gi_wp2_with fail
    exact ⟨(kp.out.trans (KeepsOthers.setCell _ _ _)).from _, BW.out.setCell (p := ⟨w.heap.size + 1 + 1, 0, none⟩) (by simp; omega) _, ⟨⟨BV3.out, BE3.out⟩, BL3.out, BA3.out⟩, (HB1.out.trans BW.out).setCell (p := ⟨w.heap.size + 1 + 1, 0, none⟩) (by simp; omega) _⟩
  case done =>
    rintro D ys W hD rfl ⟨⟨⟨bV1, bE1⟩, bL1, bA1⟩, hB1⟩ hK
    have hm : lastP [()] = 0 := rfl
    rw [hm] at bL1
    have cL := bL1.cell
    have cV := bV1.cell
    have HM := Lib.hid (measure_any (c := c) hx (hc.below hB1 hc.lt))
    gi_wp2_with fail
    refine ⟨trivial, ?_⟩
    refine (callsIn_wide.2 HM.out).mono ?_
    rintro e W2 ⟨rfl, hb2⟩
    have hs := hx.size
    have hd : decide ((4096 : Int) < 1 + (x.text.size : Int)) = false := decide_eq_false (by omega)
    have bE2 := boxed_below bE1 hb2
    have cE := bE2.cell
    have fE := bE2.frozen
    have hK2 : W2.heap[D]? = some (.deferred (some [])) := (hb2.block D (Array.getElem?_eq_some_iff.1 hK).1).trans hK
    have hB2 := Lib.hid (bthen hB1 hb2)
    have BE3 := Lib.hid (bE2.set (.int .i64 0))
    have HK3 := Lib.hid ((KeepsOthers.setCell W2 ⟨w.heap.size + 1, 0, none⟩ (.int .i64 0)).same D _ hK2 rfl)
    clear hb2 bV1 bE1 bL1 bA1 cL cV hB1 hK HM bE2
    gi_wp2_with fail
    refine ⟨by simp, .inl ⟨_, _, rfl, run_takeDeferred HK3.out, ?_⟩⟩
    have hcell := cell_kept BE3.out.cell (grownBy_putObj' _ D (.deferred none)) (fun r e => by cases e; exact ⟨_, HK3.out, rfl⟩)
    refine ⟨.int .i64 0, ?_, rfl, (hB2.out.setCell (p := ⟨w.heap.size + 1, 0, none⟩) (by simp) _).trans (belowK_b (w := w) (Nat.le_refl _) _ D _ _ (by omega) HK3.out rfl rfl)⟩
    simp [results, Try.results44, go_sem, hcell]
    trace_state
  case stop =>
    rintro D c pre W _ _ h _
    exact h.elim
end Go.Proofs.Ytakailalhpkfdaa
