/- Closed facts of the row's form, some to a text: all together they want more memory than one process has. -/
import Derived.Test.YtaeophaecclnbaaGreatDoorRows
import Derived.JoinedOf
import Derived.KernelRfl
namespace Go.Proofs.YtaeophaecclnbaaGreatDoor
open Go
theorem jf_uf : (Rows.nodeReadsRow.unfollowed == Tryz.prog.unfollowed 3) = true := by kernel_rfl
end Go.Proofs.YtaeophaecclnbaaGreatDoor
