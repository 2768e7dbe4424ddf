/- Values of one node: measure and Check, walked. -/
import Derived.Test.YtakailalhpkfdaaChk
namespace Go.Proofs.Ytakailalhpkfdaa
open Go.RowKit Go.Shelf

attribute [local go_sem] Oper.semAt_some
/-- What nodes hands back goes through a value of one node. -/
theorem stops1 (n : Nat) (hn : 1 ≤ n) (Bs n₀ b c : Nat) (x : Node) (hx : Plain1 x) (w : World) (hBs : Bs < w.heap.size) (hn₀ : n₀ ≤ w.heap.size) (hcell : w.cell? ⟨Bs, 0, none⟩ = some (.slice (some ⟨b, 0, none⟩) 1 c)) (hb : b < n₀) (hc : NodeAt w b 0 x) :
    SeqStopsK Fence.wide n Try.prog 77 #[.pointer (some ⟨Bs, 0, none⟩)] (fun _ : Unit => #[x.val, .int .i64 0]) (Below n₀) (fun ys => ys = [()]) (fun pre => pre = [()]) 1 w := fun l J Jx W hW hJ _ hY h0 =>
  nodes1_in n hn l Bs n₀ b c x (by have := hx.kind; omega) hb J Jx W hJ (fun pre W1 hj hl => hY pre () W1 hj hl) ((hW.cell (p := ⟨Bs, 0, none⟩) hBs).trans hcell) (hc.below hW (by omega)) h0
theorem node_own (B b : Nat) (x : Node) : OwnFrom B (fun (_ : Unit) W => NodeAt W b 0 x) := fun _ _ _ _ hs hg hr =>
  ⟨cell_kept hs.c0 hg (fun r e => (hr r e).2), cell_kept hs.c1 hg (fun r e => (hr r e).2), cell_kept hs.c2 hg (fun r e => (hr r e).2), cell_kept hs.c3 hg (fun r e => (hr r e).2), cell_kept hs.c4 hg (fun r e => (hr r e).2)⟩
/-- How much one node is, behind so many rounds. -/
def meaP (x : Node) (pre : List Unit) : Int := if pre.length = 0 then 0 else 1 + (x.text.size : Int)
set_option maxRecDepth 100000 in
set_option maxHeartbeats 2000000 in
theorem measure_any {b c : Nat} {x : Node} {w : World} (hx : Plain1 x) (hc : NodeAt w b 0 x) : Calls Try.prog 62 #[.slice (some ⟨b, 0, none⟩) 1 c] w (RetB (.int .i64 (1 + (x.text.size : Int))) w) := by
  have hsc := store_cx
  refine (callsIn_wide (n := 6)).1 ?_
  refine callsIn_of_wp_marks Try.func62 rfl trivial ?_ rfl
  simp only [Try.ntmps62, List.size_toArray, List.length_cons, List.length_nil, Nat.reduceAdd, Nat.reduceSub, Array.replicate_succ, Array.replicate_zero, List.push_toArray, List.append_toArray, List.nil_append, List.cons_append]
  gi_wp2_with fail
  refine ⟨trivial, ?_⟩
  refine (callsIn_wide.2 (nodes_any _ _ _ _)).mono ?_
  rintro e w' ⟨rfl, rfl⟩
  gi_wp2_with fail
  have bS := (Boxed.new w 3 (.int .i64 0)).alloc (.cells #[.slice (some ⟨b, 0, none⟩) 1 c] 23)
  have bN := Boxed.new (w.alloc (.cells #[.int .i64 0] 3)) 23 (.slice (some ⟨b, 0, none⟩) 1 c)
  rw [World.size_alloc] at bN
  have hB0 : Below w.heap.size w ((w.alloc (.cells #[.int .i64 0] 3)).alloc (.cells #[.slice (some ⟨b, 0, none⟩) 1 c] 23)) := ((Below.refl _ w).alloc (Nat.le_refl _) _).alloc (by simp) _
  have hsz : ((w.alloc (.cells #[.int .i64 0] 3)).alloc (.cells #[.slice (some ⟨b, 0, none⟩) 1 c] 23)).heap.size = w.heap.size + 2 := by simp
  generalize (w.alloc (.cells #[.int .i64 0] 3)).alloc (.cells #[.slice (some ⟨b, 0, none⟩) 1 c] 23) = W0 at *
  refine wpIn_rangeFunc_ownH (F := Fence.wide) (n := 6) (P := Try.prog) rfl (by omega) (gf := 77) (lb := #[.pointer (some ⟨w.heap.size + 1, 0, none⟩)]) rfl trivial (enters_of Try.func77 (by kernel_rfl) rfl)
    (stops1 5 (by omega) (w.heap.size + 1) w.heap.size b c x hx W0 (by omega) (by omega) bN.cell hc.lt (hc.below hB0 hc.lt)) belowK_t (belowK_b (by omega)) (Below.refl _ _) (fun _ => rfl)
    (fun pre W => Boxed W w.heap.size 3 (.int .i64 (meaP x pre)) ∧ Below w.heap.size w W)
    (fun _ _ _ => False)
    (OwnFrom.and (Own.from (boxed_own _ _ _) _) (ownFrom_below (Nat.le_refl _) (by omega)))
    (fun _ _ _ _ _ hs _ _ => hs)
    ⟨bS, hB0⟩
    (fun _ a' W => ∃ Bx, w.heap.size < Bx ∧ NodeAt W Bx 0 x ∧ a' = { tmps := #[.slice (some ⟨b, 0, none⟩) 1 c, undef, .int .i64 0, .pointer (some ⟨w.heap.size, 0, none⟩), .pointer (some ⟨Bx, 0, none⟩), .slice (some ⟨b, 0, none⟩) 1 c, .func (.func 77) #[] #[.pointer (some ⟨w.heap.size + 1, 0, none⟩)], x.val, .int .i64 0, undef, undef, undef, undef, undef, undef, undef], defers := [] })
    (fun _ a' _ X Y row hs hg hr => by obtain ⟨Bx, h1, h2, h3⟩ := hs; exact ⟨Bx, h1, node_own _ Bx x () X Y row h2 hg hr, h3⟩)
    ?assign ?body ?done ?stop
  case assign =>
    rintro l pre _ W K ⟨bS1, hB1⟩ hK
    obtain ⟨kd, ks, it, tx, re, im⟩ := x
    unfold Node.val
    gi_wp2
    exact hK _ _ ((KeepsOthers.alloc _ _).from _) ((Below.refl _ W).alloc hB1.size _) ⟨bS1.alloc _, hB1.alloc hB1.size _⟩ ⟨W.heap.size, bS1.lt, node_new W W.heap.size rfl ⟨kd, ks, it, tx, re, im⟩ _, rfl⟩
  case body =>
    rintro l pre _ a' W hl ⟨r, hr⟩ ⟨bS1, hB1⟩ ⟨Bx, hBx, hN, rfl⟩ hlt
    obtain rfl : pre = [] := List.eq_nil_of_length_eq_zero (by omega)
    have cS := bS1.cell
    have fS := bS1.frozen
    have c3 := hN.c3
    rw [Nat.zero_add] at c3
    have hs := hx.size
    have hm : meaP x [] = 0 := rfl
    rw [hm] at cS
    have hm1 : meaP x ([] ++ [()]) = 1 + (x.text.size : Int) := rfl
    have bS2 : ∀ v, Boxed (W.setCell ⟨w.heap.size, 0, none⟩ v) w.heap.size 3 v := fun v => bS1.set _
    have w1 : IntKind.i64.wrap (1 + (x.text.size : Int)) = 1 + (x.text.size : Int) := IntWalk.i64_in _ (by omega)
    have w2 : IntKind.i64.wrap (0 + (1 + (x.text.size : Int))) = 1 + (x.text.size : Int) := by rw [Int.zero_add]; exact w1
    clear hm1
    generalize x.val = xv at *
    gi_wp2
    exact ⟨(KeepsOthers.setCell _ _ _).from _, (Below.refl w.heap.size W).setCell (p := ⟨w.heap.size, 0, none⟩) (Nat.le_refl _) _, bS2 _, hB1.setCell (p := ⟨w.heap.size, 0, none⟩) (Nat.le_refl _) _⟩
  case done =>
    rintro D ys W hD rfl ⟨bS1, hB1⟩ hK
    have cS := bS1.cell
    have hm1 : meaP x [()] = 1 + (x.text.size : Int) := rfl
    rw [hm1] at cS
    gi_wp2
    refine ⟨by simp, .inl ⟨_, _, rfl, run_takeDeferred hK, ?_⟩⟩
    exact ⟨_, results_tmp rfl _ _ _, rfl, hB1.trans (belowK_b (w := w) (Nat.le_refl _) W D _ _ (by omega) hK rfl rfl)⟩
  case stop =>
    rintro D c pre W _ _ h _
    exact h.elim
end Go.Proofs.Ytakailalhpkfdaa
