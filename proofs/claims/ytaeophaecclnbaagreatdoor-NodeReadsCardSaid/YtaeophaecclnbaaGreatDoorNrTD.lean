/- Closed facts of the tie between the listed variables and the program's text, some to a text: all together they want more memory than one process has. -/
import Derived.Test.YtaeophaecclnbaaGreatDoorRows
import Derived.LaidByTextLater
import Derived.SevenTiedAt
import Derived.KernelRfl
namespace Go.Proofs.YtaeophaecclnbaaGreatDoor
open Go
theorem tie_d : ∀ os tape, varsDone Tryz.prog 400 (varsId Tryz.prog) os tape = true := fun _ _ => by kernel_rfl
end Go.Proofs.YtaeophaecclnbaaGreatDoor
