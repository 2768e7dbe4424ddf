/- Closed facts of the tie between the listed variables and the program's text, some to a text: all together they want more memory than one process has. -/
import Derived.Test.YtaeophaecclnbaaGreatDoorRows
import Derived.LaidByTextLater
import Derived.SevenTiedAt
import Derived.KernelRfl
namespace Go.Proofs.YtaeophaecclnbaaGreatDoor
open Go
theorem tie_w : Tryz.prog.worded (varsWordLater true) = true := by kernel_rfl
theorem tie_x : Tryz.prog.worded (varsWordLater !true) = false := by kernel_rfl
end Go.Proofs.YtaeophaecclnbaaGreatDoor
