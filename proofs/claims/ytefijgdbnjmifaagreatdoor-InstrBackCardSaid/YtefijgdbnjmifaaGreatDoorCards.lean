/-
  DERIVED. GIVEN WITH THE SEED: THE CARDS: each row of YtefijgdbnjmifaaGreatDoorRows.lean that lists a variable, with what it lists TIED to the program's text (the seventh form; the later family's looks); each row that meets fmt, with fmt's text TOLD by the authors' own Lean function (tested against real Go, not proved from fmt's source: count such statements apart). THE CARD IS WHAT COUNTS. Prove the row's statement (the work); the ties are given (YtefijgdbnjmifaaGreatDoorTie.lean); close each card by the builder's one call (the guide's Derived/Test/ToyasCard.lean, 'card_holds'). Laid BY PROGRAM, IN A SANDBOX (cutbox-door.mjs). By AI agents, Wed Nov 11 2026. No macro, syntax, notation, axiom, sorry.
-/
import Derived.Test.YtefijgdbnjmifaaGreatDoorRows
import GoSem.ClaimSeven
namespace Go.Proofs.YtefijgdbnjmifaaGreatDoor
namespace Rows

/-- THE TIED CARD OF 'prompterlaw14.InstrBack'. -/
def instrBackCard : Claim7 := { stood := { row := instrBackRow, standIns := [], harness := (true, "033f53b64c8f41b58406c1a41a814cb76c61d9711d78a0128cfad30d78bd066a"), looks := true }, kinds := [], alts := [], laidByText := true, laidKinds := [.data, .data, .data, .sentinel, .sentinel], laidTests := true, laidLooks := .later }
def InstrBackCardSaid : Prop := Claim7.holds Tryz.pinned (.plain (OpenSpec.ofChange instrBackSpec)) instrBackCard

/-- THE TIED CARD OF 'prompterlaw14.InstrOnce'. -/
def instrOnceCard : Claim7 := { stood := { row := instrOnceRow, standIns := [], harness := (true, "033f53b64c8f41b58406c1a41a814cb76c61d9711d78a0128cfad30d78bd066a"), looks := true }, kinds := [], alts := [], laidByText := true, laidKinds := [.data, .data, .data, .sentinel, .sentinel], laidTests := true, laidLooks := .later }
def InstrOnceCardSaid : Prop := Claim7.holds Tryz.pinned (.plain (OpenSpec.ofChange instrOnceSpec)) instrOnceCard

/-- THE SECOND FORM's CARD OF 'prompterlaw14.InstrBack'. -/
def instrBackUptoCard : Claim7 := { stood := { row := instrBackUptoRow, standIns := [], harness := (true, "033f53b64c8f41b58406c1a41a814cb76c61d9711d78a0128cfad30d78bd066a"), looks := true }, kinds := [], alts := [], laidByText := true, laidKinds := [.data, .data, .data, .sentinel, .sentinel], laidTests := true, laidLooks := .later }
def InstrBackUptoCardSaid : Prop := Claim7.holds Tryz.pinned (.plain (OpenSpec.upto instrBackSpec)) instrBackUptoCard

/-- THE SECOND FORM's CARD OF 'prompterlaw14.InstrOnce'. -/
def instrOnceUptoCard : Claim7 := { stood := { row := instrOnceUptoRow, standIns := [], harness := (true, "033f53b64c8f41b58406c1a41a814cb76c61d9711d78a0128cfad30d78bd066a"), looks := true }, kinds := [], alts := [], laidByText := true, laidKinds := [.data, .data, .data, .sentinel, .sentinel], laidTests := true, laidLooks := .later }
def InstrOnceUptoCardSaid : Prop := Claim7.holds Tryz.pinned (.plain (OpenSpec.upto instrOnceSpec)) instrOnceUptoCard
end Rows
end Go.Proofs.YtefijgdbnjmifaaGreatDoor
