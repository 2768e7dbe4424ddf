/- What asked answers of a comparing operator. -/
import Derived.Test.YtakailalhpkfdaaBin
namespace Go.Proofs.Ytakailalhpkfdaa
open Go.RowKit

set_option maxHeartbeats 1000000 in
theorem asked_any {op : Nat} (hop : op = 32 ∨ op = 33 ∨ op = 34 ∨ op = 35) {x y : Node} {c : Int} (h : Pair1 x y c) {b1 c1 b2 c2 : Nat} {w : World} (hx : NodeAt w b1 0 x) (hy : NodeAt w b2 0 y) :
    Calls Try.prog 7 #[.int .u8 (op : Int), .slice (some ⟨b1, 0, none⟩) 1 c1, .slice (some ⟨b2, 0, none⟩) 1 c2] w (RetB (.tuple #[.bool (opB op c), .bool true]) w) := by
  have HB := Lib.hid (bin_any hop h (c1 := c1) (c2 := c2) hx hy)
  clear hx hy h
  generalize (op : Int) = o at *
  generalize opB op c = t at *
  go_enter Try.func7, Try.ntmps7
  go_wp2_with fail
  refine HB.out.mono ?_
  rintro e w1 ⟨b, rfl, hn, hlo, h1⟩
  have H1 := Lib.hid (And.intro hn h1)
  clear hn hlo h1 HB
  go_wp2_with fail
  refine (truth_any H1.out.1).mono ?_
  rintro e w2 ⟨rfl, h2⟩
  have H2 := Lib.hid (bthen H1.out.2 h2)
  clear h2
  go_wp2_with fail
  go_ret2
  exact ⟨rfl, H2.out⟩
end Go.Proofs.Ytakailalhpkfdaa
