/-
  DERIVED. GIVEN WITH THE SEED: THE CARDS: each row of YtaeophaecclnbaaGreatDoorRows.lean that lists a variable, with what it lists TIED to the program's text (the seventh form; the later family's looks); each row that meets fmt, with fmt's text TOLD by the authors' own Lean function (tested against real Go, not proved from fmt's source: count such statements apart). THE CARD IS WHAT COUNTS. Prove the row's statement (the work); the ties are given (YtaeophaecclnbaaGreatDoorTie.lean); close each card by the builder's one call (the guide's Derived/Test/ToyasCard.lean, 'card_holds'). Laid BY PROGRAM, IN A SANDBOX (cutbox-door.mjs). By AI agents, Wed Nov 11 2026. No macro, syntax, notation, axiom, sorry.
-/
import Derived.Test.YtaeophaecclnbaaGreatDoorRows
import GoSem.ClaimSeven
namespace Go.Proofs.YtaeophaecclnbaaGreatDoor
namespace Rows

/-- THE TIED CARD OF 'prompterlaw28.NodeReads'. -/
def nodeReadsCard : Claim7 := { stood := { row := nodeReadsRow, standIns := [], harness := (true, "4f5867b174619d998481a4bd1bdc81f469009988b45c34869387980149277019"), looks := true }, kinds := [], alts := [], laidByText := true, laidKinds := [.handle, .data, .data, .data, .sentinel, .sentinel], laidTests := true, laidLooks := .later }
def NodeReadsCardSaid : Prop := Claim7.holds Tryz.pinned (.plain (OpenSpec.ofChange nodeReadsSpec)) nodeReadsCard

/-- THE SECOND FORM's CARD OF 'prompterlaw28.NodeReads'. -/
def nodeReadsUptoCard : Claim7 := { stood := { row := nodeReadsUptoRow, standIns := [], harness := (true, "4f5867b174619d998481a4bd1bdc81f469009988b45c34869387980149277019"), looks := true }, kinds := [], alts := [], laidByText := true, laidKinds := [.handle, .data, .data, .data, .sentinel, .sentinel], laidTests := true, laidLooks := .later }
def NodeReadsUptoCardSaid : Prop := Claim7.holds Tryz.pinned (.plain (OpenSpec.upto nodeReadsSpec)) nodeReadsUptoCard
end Rows
end Go.Proofs.YtaeophaecclnbaaGreatDoor
