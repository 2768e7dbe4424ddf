/-
  DERIVED. GIVEN WITH THE SEED: THE CARDS: each row of YtefijgdbnjmifaaDoorRows.lean that lists a variable, with what it lists TIED to the program's text (the seventh form; the later family's looks); each row that meets fmt, with fmt's text TOLD by the authors' own Lean function (tested against real Go, not proved from fmt's source: count such statements apart). THE CARD IS WHAT COUNTS. Prove the row's statement (the work); the ties are given (YtefijgdbnjmifaaDoorTie.lean); close each card by the builder's one call (the guide's Derived/Test/ToyasCard.lean, 'card_holds'). Laid BY PROGRAM, IN A SANDBOX (cutbox-door.mjs). By AI agents, Wed Nov 11 2026. No macro, syntax, notation, axiom, sorry.
-/
import Derived.Test.YtefijgdbnjmifaaDoorRows
import GoSem.ClaimSeven
namespace Go.Proofs.YtefijgdbnjmifaaDoor
namespace Rows

/-- THE TIED CARD OF 'prompterlaw14.InstrBytes'. -/
def instrBytesCard : Claim7 := { stood := { row := instrBytesRow, standIns := [], harness := (true, "4ea03e6cf561bb083aa503a437e16c560f7a1367c450784b0750c3575fa4bf06"), looks := true }, kinds := [], alts := [], laidByText := true, laidKinds := [.data, .data, .data], laidTests := true, laidLooks := .later }
def InstrBytesCardSaid : Prop := Claim7.holds Tryd.pinned (.plain (OpenSpec.ofChange instrBytesSpec)) instrBytesCard

/-- THE TIED CARD OF 'prompterlaw14.InstrKnown'. -/
def instrKnownCard : Claim7 := { stood := { row := instrKnownRow, standIns := [], harness := (true, "4ea03e6cf561bb083aa503a437e16c560f7a1367c450784b0750c3575fa4bf06"), looks := true }, kinds := [], alts := [], laidByText := true, laidKinds := [.data, .data, .data, .sentinel, .sentinel], laidTests := true, laidLooks := .later }
def InstrKnownCardSaid : Prop := Claim7.holds Tryd.pinned (.plain (OpenSpec.ofChange instrKnownSpec)) instrKnownCard

/-- THE SECOND FORM's CARD OF 'prompterlaw14.InstrBytes'. -/
def instrBytesUptoCard : Claim7 := { stood := { row := instrBytesUptoRow, standIns := [], harness := (true, "4ea03e6cf561bb083aa503a437e16c560f7a1367c450784b0750c3575fa4bf06"), looks := true }, kinds := [], alts := [], laidByText := true, laidKinds := [.data, .data, .data], laidTests := true, laidLooks := .later }
def InstrBytesUptoCardSaid : Prop := Claim7.holds Tryd.pinned (.plain (OpenSpec.upto instrBytesSpec)) instrBytesUptoCard

/-- THE SECOND FORM's CARD OF 'prompterlaw14.InstrKnown'. -/
def instrKnownUptoCard : Claim7 := { stood := { row := instrKnownUptoRow, standIns := [], harness := (true, "4ea03e6cf561bb083aa503a437e16c560f7a1367c450784b0750c3575fa4bf06"), looks := true }, kinds := [], alts := [], laidByText := true, laidKinds := [.data, .data, .data, .sentinel, .sentinel], laidTests := true, laidLooks := .later }
def InstrKnownUptoCardSaid : Prop := Claim7.holds Tryd.pinned (.plain (OpenSpec.upto instrKnownSpec)) instrKnownUptoCard
end Rows
end Go.Proofs.YtefijgdbnjmifaaDoor
