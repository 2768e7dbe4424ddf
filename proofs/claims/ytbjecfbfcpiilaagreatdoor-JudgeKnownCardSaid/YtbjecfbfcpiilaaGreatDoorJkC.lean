/- JudgeKnown: the row's claim, lifted. -/
import Derived.Test.YtbjecfbfcpiilaaGreatDoorJkB
import Derived.Test.YtbjecfbfcpiilaaGreatDoorJkW
namespace Go.Proofs.YtbjecfbfcpiilaaGreatDoor
namespace judgeKnown
open Go.RowKit Go.ChangeShapes Go.WideShapes Go.ChangeAt
open Go.ChangeMaps (open_string)

set_option maxRecDepth 100000 in
theorem lifted (os : Os) (started : os.Started) (H : Type) (enc : TypeId × Value → H) (F : Stop.Interp) :
    ReturnsInHanded {} Tryz.checked os 3 .any ((OpenSpec.ofChange Rows.judgeKnownSpec).preRow enc Tryz.prog Tryz.f3 Rows.judgeKnownRow.domain false Rows.judgeKnownRow.laid) (((OpenSpec.ofChange Rows.judgeKnownSpec).at F).post enc Tryz.prog Tryz.f3 false true false false) := by
  refine returnsInHanded_of_row (C := Tryz.checked) (s := OpenSpec.ofChange Rows.judgeKnownSpec) own started (by kernel_rfl) Tryz.func3
    (fits os enc) ?_
  intro W base args ds gs before hval hW _ _ _ hL hS _
  exact contract H enc W base args ds gs before hval hW hL hS

end judgeKnown
end Go.Proofs.YtbjecfbfcpiilaaGreatDoor
