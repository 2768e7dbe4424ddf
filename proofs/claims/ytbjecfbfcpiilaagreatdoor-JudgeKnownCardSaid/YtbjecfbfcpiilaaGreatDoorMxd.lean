/- The program follows any order: one closed fact. -/
import Derived.Test.YtbjecfbfcpiilaaGreatDoorProg
import Derived.KernelRfl
import Derived.Orders
namespace Go.Proofs.YtbjecfbfcpiilaaGreatDoor
open Go
theorem mixed_ok : Tryz.prog.follows .mixedOrders = true := by kernel_rfl
end Go.Proofs.YtbjecfbfcpiilaaGreatDoor
