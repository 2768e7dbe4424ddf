/- The row's form, put together. -/
import Derived.Test.YtbjecfbfcpiilaaGreatDoorFrame
import Derived.Test.YtbjecfbfcpiilaaGreatDoorJfA
import Derived.Test.YtbjecfbfcpiilaaGreatDoorJfB
import Derived.Test.YtbjecfbfcpiilaaGreatDoorJfC
import Derived.Test.YtbjecfbfcpiilaaGreatDoorJfD
import Derived.Test.YtbjecfbfcpiilaaGreatDoorJfE
import Derived.Test.YtbjecfbfcpiilaaGreatDoorJfF
namespace Go.Proofs.YtbjecfbfcpiilaaGreatDoor
open Go
theorem jf_all : joinedFacts Tryz.prog 3 Tryz.f3 (OpenSpec.ofChange Rows.judgeKnownSpec).bare Rows.judgeKnownRow = true := by
  unfold joinedFacts
  simp only [Bool.and_eq_true]
  repeat' apply And.intro
  all_goals with_reducible first | exact laidOut_seat | exact jf_ip | exact jf_uf | exact jf_rc | exact jf_nm | exact jf_mr | exact jf_sh | exact jf_me | skip
  all_goals kernel_rfl
end Go.Proofs.YtbjecfbfcpiilaaGreatDoor
