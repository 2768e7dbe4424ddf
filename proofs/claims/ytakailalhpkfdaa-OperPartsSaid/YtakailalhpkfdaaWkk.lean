/- What wakes the law. -/
import Derived.Test.YtakailalhpkfdaaWak
namespace Go.Proofs.Ytakailalhpkfdaa
open Go.RowKit

theorem NodeAt.of_eq {w : World} {b : Nat} {x : Node} (h0 : w.cell? ⟨b, 0, none⟩ = some (.int .u8 (x.kind : Int))) (h1 : w.cell? ⟨b, 1, none⟩ = some (.int .i64 x.kids)) (h2 : w.cell? ⟨b, 2, none⟩ = some (.int .i64 x.int)) (h3 : w.cell? ⟨b, 3, none⟩ = some (.string x.text)) (h4 : w.cell? ⟨b, 4, none⟩ = some (.complex .f64 x.re x.im)) : NodeAt w b 0 x := ⟨h0, h1, h2, h3, h4⟩
set_option maxRecDepth 100000 in
set_option maxHeartbeats 4000000 in
theorem wakes_any (w : World) : Calls Try.prog 8 #[] w (RetB (.bool true) w) := by
  have hsc := store_cx
  go_enter Try.func8, Try.ntmps8
  go_wp2_with fail
  refine (bin_add23 (NodeAt.of_eq (by simp [intN]) (by simp [intN]) (by simp [intN]) (by simp [intN]) (by simp [intN])) (NodeAt.of_eq (by simp [intN]) (by simp [intN]) (by simp [intN]) (by simp [intN]) (by simp [intN]))).mono ?_
  rintro e w1 ⟨b, rfl, hn, hlo, h1⟩
  have H1 := Lib.hid (show Below w.heap.size w w1 from bthen (show Below w.heap.size w _ from by go_grown) h1)
  have HS := Lib.hid (show w1.cell? ⟨b, 0, none⟩ = some (.int .u8 2) ∧ w1.cell? ⟨b, 2, none⟩ = some (.int .i64 5) from ⟨hn.c0, hn.c2⟩)
  have c0 := HS.out.1
  have c2 := HS.out.2
  clear hn hlo h1 HS
  go_wp2_with fail
  go_ret
  exact ⟨rfl, H1.out⟩
end Go.Proofs.Ytakailalhpkfdaa
