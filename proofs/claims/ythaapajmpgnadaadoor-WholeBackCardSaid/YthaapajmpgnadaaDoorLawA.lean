/- The statements of layer 1 on sums, quotients and their laws, walked. -/
import Derived.Test.YthaapajmpgnadaaDoorWholeT
import Derived.Test.YthaapajmpgnadaaDoorWholeS
namespace Go.Proofs.YthaapajmpgnadaaDoor
open Go.RowKit

set_option maxHeartbeats 1000000 in
theorem sums_law (a b : Int) (ha : -9223372036854775808 ≤ a) (ha' : a ≤ 9223372036854775807) (hb : -9223372036854775808 ≤ b) (hb' : b ≤ 9223372036854775807) (w : World) (hp : Pow10 w) :
    Calls Tryd.prog 5 #[.int .i64 a, .int .i64 b] w (RetB (.bool true) w) := by
  have H := Lib.hid hp
  clear hp
  go_enter Tryd.func5, Tryd.ntmps5
  go_wp2_with fail
  refine (awake_any _ H.out).mono ?_; rintro e w1 ⟨rfl, h1⟩
  go_wp2_with fail
  refine (add_any a b ha ha' hb hb' _).mono ?_; rintro e w' ⟨rfl, rfl⟩
  go_wp2_with fail
  refine (radd_any a b ha ha' hb hb' _).mono ?_; rintro e w2 ⟨rfl, h2⟩
  go_wp2_with fail
  refine (sub_any a b ha ha' hb hb' _).mono ?_; rintro e w' ⟨rfl, rfl⟩
  go_wp2_with fail
  refine (rsub_any a b ha ha' hb hb' _).mono ?_; rintro e w3 ⟨rfl, h3⟩
  go_wp2_with fail
  refine (mul_any a b ha ha' hb hb' _).mono ?_; rintro e w' ⟨rfl, rfl⟩
  go_wp2_with fail
  refine (rmul_any a b ha ha' hb hb' _).mono ?_; rintro e w4 ⟨rfl, h4⟩
  go_wp2_with fail
  refine (neg_any a ha ha' _).mono ?_; rintro e w' ⟨rfl, rfl⟩
  go_wp2_with fail
  refine (rneg_any a ha ha' _).mono ?_; rintro e w5 ⟨rfl, h5⟩
  go_wp2_with fail
  go_ret
  exact ⟨rfl, bthen (bthen (bthen (bthen h1 h2) h3) h4) h5⟩

set_option maxHeartbeats 1000000 in
theorem quotients_law (a b n : Int) (ha : -9223372036854775808 ≤ a) (ha' : a ≤ 9223372036854775807) (hb : -9223372036854775808 ≤ b) (hb' : b ≤ 9223372036854775807) (hn : -9223372036854775808 ≤ n) (hn' : n ≤ 9223372036854775807) (w : World) (hp : Pow10 w) :
    Calls Tryd.prog 6 #[.int .i64 a, .int .i64 b, .int .i64 n] w (RetB (.bool true) w) := by
  have H := Lib.hid hp
  clear hp
  go_enter Tryd.func6, Tryd.ntmps6
  go_wp2_with fail
  refine (div_any a b ha ha' hb hb' _).mono ?_; rintro e w' ⟨rfl, rfl⟩
  go_wp2_with fail
  refine (mod_any a b hb hb' _).mono ?_; rintro e w' ⟨rfl, rfl⟩
  go_wp2_with fail
  refine (rdiv_any a b ha ha' hb hb' _).mono ?_; rintro e w1 ⟨rfl, h1⟩
  go_wp2_with fail
  refine (rmod_any a b ha ha' hb hb' _).mono ?_; rintro e w2 ⟨rfl, h2⟩
  go_wp2_with fail
  refine (awake_any _ ((H.out.below h1).below h2)).mono ?_; rintro e w3 ⟨rfl, h3⟩
  go_wp2_with fail
  refine (shift_any a n ha ha' hn hn' _).mono ?_; rintro e w' ⟨rfl, rfl⟩
  go_wp2_with fail
  refine (rshift_any a n ha ha' hn hn' _).mono ?_; rintro e w4 ⟨rfl, h4⟩
  go_wp2_with fail
  go_ret
  exact ⟨rfl, bthen (bthen (bthen h1 h2) h3) h4⟩
end Go.Proofs.YthaapajmpgnadaaDoor
