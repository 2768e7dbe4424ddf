/- Values of one node: checked, Truth; walked. -/
import Derived.Test.YtakailalhpkfdaaKin
import Derived.Deep.RegionHeld3
import Derived.LoopN
namespace Go.Proofs.Ytakailalhpkfdaa
open Go.RowKit

theorem checked_one {g cap b c : Nat} {x : Node} {w : World} (hx : Plain1 x) (hc : NodeAt w b 0 x) (hs : w.cell? ⟨g, 0, none⟩ = some (.slice (some ⟨b, 0, none⟩) 1 c)) :
    Calls Try.prog 17 #[.slice (some ⟨g, 0, none⟩) 1 cap] w (RetB (.int .i64 0) w) := by
  have HC := Lib.hid (check1_any (c := c) hx hc)
  clear hc
  go_enter Try.func17, Try.ntmps17
  go_wp2_with fail
  refine wp_loop_rounds 2 ?_
  rw [rounds_succ]
  go_wp2_with fail
  refine HC.out.mono ?_
  rintro e w1 ⟨rfl, h1⟩
  have H1 := Lib.hid h1
  clear h1
  go_wp2_with fail
  rw [rounds_succ]
  go_wp2_with fail
  go_ret
  exact ⟨rfl, H1.out⟩
theorem checked_two {g cap b c d f : Nat} {x y : Node} {w : World} (hx : Plain1 x) (hy : Plain1 y) (hc : NodeAt w b 0 x) (hd : NodeAt w d 0 y) (hs : w.cell? ⟨g, 0, none⟩ = some (.slice (some ⟨b, 0, none⟩) 1 c)) (ht : w.cell? ⟨g, 1, none⟩ = some (.slice (some ⟨d, 0, none⟩) 1 f)) :
    Calls Try.prog 17 #[.slice (some ⟨g, 0, none⟩) 2 cap] w (RetB (.int .i64 0) w) := by
  have HC := Lib.hid (check1_any (c := c) hx hc)
  have HD := Lib.hid hd
  have hgl := World.block_lt_of_cell? w _ ht
  clear hc hd
  go_enter Try.func17, Try.ntmps17
  go_wp2_with fail
  refine wp_loop_rounds 3 ?_
  rw [rounds_succ]
  go_wp2_with fail
  refine HC.out.mono ?_
  rintro e w1 ⟨rfl, h1⟩
  have H1 := Lib.hid h1
  have t1 := (h1.cell (p := ⟨g, 1, none⟩) hgl).trans ht
  clear h1 hs ht
  go_wp2_with fail
  rw [rounds_succ]
  go_wp2_with fail
  refine (check1_any (c := f) hy (HD.out.below H1.out HD.out.lt)).mono ?_
  rintro e w2 ⟨rfl, h2⟩
  have H2 := Lib.hid (bthen H1.out h2)
  clear h2
  go_wp2_with fail
  rw [rounds_succ]
  go_wp2_with fail
  go_ret
  exact ⟨rfl, H2.out⟩
/-- A bool's truth. -/
theorem truth_any {b c : Nat} {t : Bool} {w : World} (hc : NodeAt w b 0 (boolN t)) : Calls Try.prog 16 #[.slice (some ⟨b, 0, none⟩) 1 c] w (RetB (.tuple #[.bool t, .int .i64 0]) w) := by
  have HC := Lib.hid hc
  have hl := hc.lt
  go_enter Try.func16, Try.ntmps16
  go_wp2_with fail
  refine (checked_one (b := b) (c := c) (.bool t) (HC.out.below ((Below.refl _ w).alloc (Nat.le_refl _) _) hl) (by simp)).mono ?_
  rintro e w1 ⟨rfl, h1⟩
  have H1 := Lib.hid (show Below w.heap.size w w1 from bthen ((Below.refl _ w).alloc (Nat.le_refl _) _) h1)
  have hn := HC.out.below H1.out hl
  have c0 := hn.c0
  have c2 := hn.c2
  rw [Nat.zero_add] at c2
  have k1 : (boolN t).kind = 1 := rfl
  have k2 : (boolN t).int = if t then 1 else 0 := rfl
  rw [k1] at c0
  rw [k2] at c2
  clear hn h1 hc
  cases t with
  | false =>
    rw [if_neg (by simp)] at c2
    go_wp2_with fail
    go_ret2
    exact ⟨rfl, H1.out⟩
  | true =>
    rw [if_pos rfl] at c2
    go_wp2_with fail
    go_ret2
    exact ⟨rfl, H1.out⟩
end Go.Proofs.Ytakailalhpkfdaa
