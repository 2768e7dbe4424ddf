/- The row's form, put together. -/
import Derived.Test.YtaeophaecclnbaaGreatDoorFrame
import Derived.Test.YtaeophaecclnbaaGreatDoorNrFA
import Derived.Test.YtaeophaecclnbaaGreatDoorNrFB
import Derived.Test.YtaeophaecclnbaaGreatDoorNrFC
import Derived.Test.YtaeophaecclnbaaGreatDoorNrFD
import Derived.Test.YtaeophaecclnbaaGreatDoorNrFE
import Derived.Test.YtaeophaecclnbaaGreatDoorNrFF
namespace Go.Proofs.YtaeophaecclnbaaGreatDoor
open Go
theorem jf_all : joinedFacts Tryz.prog 3 Tryz.f3 (OpenSpec.ofChange Rows.nodeReadsSpec).bare Rows.nodeReadsRow = true := by
  unfold joinedFacts
  simp only [Bool.and_eq_true]
  repeat' apply And.intro
  all_goals with_reducible first | exact laidOut_seat | exact jf_ip | exact jf_uf | exact jf_rc | exact jf_nm | exact jf_mr | exact jf_sh | exact jf_me | skip
  all_goals kernel_rfl
end Go.Proofs.YtaeophaecclnbaaGreatDoor
