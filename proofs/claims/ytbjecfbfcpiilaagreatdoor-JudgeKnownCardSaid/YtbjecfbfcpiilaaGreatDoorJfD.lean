/- Closed facts of the row's form, some to a text: all together they want more memory than one process has. -/
import Derived.Test.YtbjecfbfcpiilaaGreatDoorRows
import Derived.JoinedOf
import Derived.KernelRfl
namespace Go.Proofs.YtbjecfbfcpiilaaGreatDoor
open Go
theorem jf_nm : (Rows.judgeKnownRow.named == Tryz.prog.varsNamed 3) = true := by kernel_rfl
end Go.Proofs.YtbjecfbfcpiilaaGreatDoor
