/- Closed facts of the row's form, some to a text: all together they want more memory than one process has. -/
import Derived.Test.YtaeophaecclnbaaGreatDoorRows
import Derived.JoinedOf
import Derived.KernelRfl
namespace Go.Proofs.YtaeophaecclnbaaGreatDoor
open Go
theorem jf_sh : Tryz.prog.stopsHeard = true := by kernel_rfl
theorem jf_me : Tryz.prog.mayEnter = true := by kernel_rfl
end Go.Proofs.YtaeophaecclnbaaGreatDoor
