/- JudgeKnown: the card: the call returns true, and the world reads as it did. Conditions: those of the given statement, no others. -/
import Derived.Test.YtbjecfbfcpiilaaGreatDoorCards
import Derived.Test.YtbjecfbfcpiilaaGreatDoorTiZ
import Derived.Test.YtbjecfbfcpiilaaGreatDoorJkD
import Derived.Test.YtbjecfbfcpiilaaGreatDoorJkG
import Derived.Test.YtbjecfbfcpiilaaGreatDoorJkL
namespace Go.Proofs.YtbjecfbfcpiilaaGreatDoor
namespace judgeKnown
open Go.RowKit Go.ChangeShapes Go.WideShapes Go.ChangeAt
open Go.ChangeMaps (open_string)

/-- THE CARD. -/
theorem card : Rows.JudgeKnownCardSaid :=
  Claim7.holds_tied_plain_at .later [] _ _ _ _ said (fun _ h => by cases h) (by kernel_rfl) (fun _ h => by cases h) judgeKnown_tie rfl ⟨rfl, rfl⟩ (by kernel_rfl) rfl (fun f fn hf hfn => ⟨looks_on, (plain f fn hf hfn).2⟩) goes_off
end judgeKnown
theorem judgeKnown_holds : Rows.JudgeKnownCardSaid := judgeKnown.card
end Go.Proofs.YtbjecfbfcpiilaaGreatDoor
