/-
  DERIVED. GIVEN WITH THE SEED: THE CARDS: each row of YthbdhijkdldmoaaGreatDoorRows.lean that lists a variable, with what it lists TIED to the program's text (the seventh form; the later family's looks); each row that meets fmt, with fmt's text TOLD by the authors' own Lean function (tested against real Go, not proved from fmt's source: count such statements apart). THE CARD IS WHAT COUNTS. Prove the row's statement (the work); the ties are given (YthbdhijkdldmoaaGreatDoorTie.lean); close each card by the builder's one call (the guide's Derived/Test/ToyasCard.lean, 'card_holds'). Laid BY PROGRAM, IN A SANDBOX (cutbox-door.mjs). By AI agents, Wed Nov 11 2026. No macro, syntax, notation, axiom, sorry.
-/
import Derived.Test.YthbdhijkdldmoaaGreatDoorRows
import GoSem.ClaimSeven
namespace Go.Proofs.YthbdhijkdldmoaaGreatDoor
namespace Rows

/-- THE TIED CARD OF 'printworkskeep3.ObjectPrintParseRoundTrip'. -/
def objectPrintParseRoundTripCard : Claim7 := { stood := { row := objectPrintParseRoundTripRow, standIns := [], harness := (true, "3a34bc69246842fe277eb70a890b76e567ef0691f8b10404e2576907679da525"), looks := true }, kinds := [], alts := [], laidByText := true, laidKinds := [.data, .data, .data, .data, .sentinel, .sentinel, .pinned], laidTests := true, laidLooks := .later }
def ObjectPrintParseRoundTripCardSaid : Prop := Claim7.holds Tryz.pinned (.plain (OpenSpec.ofChange objectPrintParseRoundTripSpec)) objectPrintParseRoundTripCard

/-- THE TIED CARD OF 'printworkskeep3.ObjectParsePrintStable'. -/
def objectParsePrintStableCard : Claim7 := { stood := { row := objectParsePrintStableRow, standIns := [], harness := (true, "3a34bc69246842fe277eb70a890b76e567ef0691f8b10404e2576907679da525"), looks := true }, kinds := [], alts := [], laidByText := true, laidKinds := [.data, .data, .data, .data, .sentinel, .sentinel, .pinned], laidTests := true, laidLooks := .later }
def ObjectParsePrintStableCardSaid : Prop := Claim7.holds Tryz.pinned (.plain (OpenSpec.ofChange objectParsePrintStableSpec)) objectParsePrintStableCard

/-- THE TIED CARD OF 'printworkskeep3.ObjectMergePrefersSecond'. -/
def objectMergePrefersSecondCard : Claim7 := { stood := { row := objectMergePrefersSecondRow, standIns := [], harness := (true, "3a34bc69246842fe277eb70a890b76e567ef0691f8b10404e2576907679da525"), looks := true }, kinds := [], alts := [], laidByText := true, laidKinds := [.data, .data, .data, .data, .sentinel, .sentinel, .pinned], laidTests := true, laidLooks := .later }
def ObjectMergePrefersSecondCardSaid : Prop := Claim7.holds Tryz.pinned (.plain (OpenSpec.ofChange objectMergePrefersSecondSpec)) objectMergePrefersSecondCard

/-- THE TIED CARD OF 'printworkskeep3.ObjectSetThenGet'. -/
def objectSetThenGetCard : Claim7 := { stood := { row := objectSetThenGetRow, standIns := [], harness := (true, "3a34bc69246842fe277eb70a890b76e567ef0691f8b10404e2576907679da525"), looks := true }, kinds := [], alts := [], laidByText := true, laidKinds := [.data, .data, .data, .data, .sentinel, .sentinel, .pinned], laidTests := true, laidLooks := .later }
def ObjectSetThenGetCardSaid : Prop := Claim7.holds Tryz.pinned (.plain (OpenSpec.ofChange objectSetThenGetSpec)) objectSetThenGetCard

/-- THE TIED CARD OF 'printworkskeep3.ObjectSetLeavesOthers'. -/
def objectSetLeavesOthersCard : Claim7 := { stood := { row := objectSetLeavesOthersRow, standIns := [], harness := (true, "3a34bc69246842fe277eb70a890b76e567ef0691f8b10404e2576907679da525"), looks := true }, kinds := [], alts := [], laidByText := true, laidKinds := [.data, .data, .data, .data, .sentinel, .sentinel, .pinned], laidTests := true, laidLooks := .later }
def ObjectSetLeavesOthersCardSaid : Prop := Claim7.holds Tryz.pinned (.plain (OpenSpec.ofChange objectSetLeavesOthersSpec)) objectSetLeavesOthersCard

/-- THE TIED CARD OF 'printworkskeep3.ObjectDropUndoesSet'. -/
def objectDropUndoesSetCard : Claim7 := { stood := { row := objectDropUndoesSetRow, standIns := [], harness := (true, "3a34bc69246842fe277eb70a890b76e567ef0691f8b10404e2576907679da525"), looks := true }, kinds := [], alts := [], laidByText := true, laidKinds := [.data, .data, .data, .data, .sentinel, .sentinel, .pinned], laidTests := true, laidLooks := .later }
def ObjectDropUndoesSetCardSaid : Prop := Claim7.holds Tryz.pinned (.plain (OpenSpec.ofChange objectDropUndoesSetSpec)) objectDropUndoesSetCard

/-- THE SECOND FORM's CARD OF 'printworkskeep3.ObjectPrintParseRoundTrip'. -/
def objectPrintParseRoundTripUptoCard : Claim7 := { stood := { row := objectPrintParseRoundTripUptoRow, standIns := [], harness := (true, "3a34bc69246842fe277eb70a890b76e567ef0691f8b10404e2576907679da525"), looks := true }, kinds := [], alts := [], laidByText := true, laidKinds := [.data, .data, .data, .data, .sentinel, .sentinel, .pinned], laidTests := true, laidLooks := .later }
def ObjectPrintParseRoundTripUptoCardSaid : Prop := Claim7.holds Tryz.pinned (.plain (OpenSpec.upto objectPrintParseRoundTripSpec)) objectPrintParseRoundTripUptoCard

/-- THE SECOND FORM's CARD OF 'printworkskeep3.ObjectParsePrintStable'. -/
def objectParsePrintStableUptoCard : Claim7 := { stood := { row := objectParsePrintStableUptoRow, standIns := [], harness := (true, "3a34bc69246842fe277eb70a890b76e567ef0691f8b10404e2576907679da525"), looks := true }, kinds := [], alts := [], laidByText := true, laidKinds := [.data, .data, .data, .data, .sentinel, .sentinel, .pinned], laidTests := true, laidLooks := .later }
def ObjectParsePrintStableUptoCardSaid : Prop := Claim7.holds Tryz.pinned (.plain (OpenSpec.upto objectParsePrintStableSpec)) objectParsePrintStableUptoCard

/-- THE SECOND FORM's CARD OF 'printworkskeep3.ObjectMergePrefersSecond'. -/
def objectMergePrefersSecondUptoCard : Claim7 := { stood := { row := objectMergePrefersSecondUptoRow, standIns := [], harness := (true, "3a34bc69246842fe277eb70a890b76e567ef0691f8b10404e2576907679da525"), looks := true }, kinds := [], alts := [], laidByText := true, laidKinds := [.data, .data, .data, .data, .sentinel, .sentinel, .pinned], laidTests := true, laidLooks := .later }
def ObjectMergePrefersSecondUptoCardSaid : Prop := Claim7.holds Tryz.pinned (.plain (OpenSpec.upto objectMergePrefersSecondSpec)) objectMergePrefersSecondUptoCard

/-- THE SECOND FORM's CARD OF 'printworkskeep3.ObjectSetThenGet'. -/
def objectSetThenGetUptoCard : Claim7 := { stood := { row := objectSetThenGetUptoRow, standIns := [], harness := (true, "3a34bc69246842fe277eb70a890b76e567ef0691f8b10404e2576907679da525"), looks := true }, kinds := [], alts := [], laidByText := true, laidKinds := [.data, .data, .data, .data, .sentinel, .sentinel, .pinned], laidTests := true, laidLooks := .later }
def ObjectSetThenGetUptoCardSaid : Prop := Claim7.holds Tryz.pinned (.plain (OpenSpec.upto objectSetThenGetSpec)) objectSetThenGetUptoCard

/-- THE SECOND FORM's CARD OF 'printworkskeep3.ObjectSetLeavesOthers'. -/
def objectSetLeavesOthersUptoCard : Claim7 := { stood := { row := objectSetLeavesOthersUptoRow, standIns := [], harness := (true, "3a34bc69246842fe277eb70a890b76e567ef0691f8b10404e2576907679da525"), looks := true }, kinds := [], alts := [], laidByText := true, laidKinds := [.data, .data, .data, .data, .sentinel, .sentinel, .pinned], laidTests := true, laidLooks := .later }
def ObjectSetLeavesOthersUptoCardSaid : Prop := Claim7.holds Tryz.pinned (.plain (OpenSpec.upto objectSetLeavesOthersSpec)) objectSetLeavesOthersUptoCard

/-- THE SECOND FORM's CARD OF 'printworkskeep3.ObjectDropUndoesSet'. -/
def objectDropUndoesSetUptoCard : Claim7 := { stood := { row := objectDropUndoesSetUptoRow, standIns := [], harness := (true, "3a34bc69246842fe277eb70a890b76e567ef0691f8b10404e2576907679da525"), looks := true }, kinds := [], alts := [], laidByText := true, laidKinds := [.data, .data, .data, .data, .sentinel, .sentinel, .pinned], laidTests := true, laidLooks := .later }
def ObjectDropUndoesSetUptoCardSaid : Prop := Claim7.holds Tryz.pinned (.plain (OpenSpec.upto objectDropUndoesSetSpec)) objectDropUndoesSetUptoCard
end Rows
end Go.Proofs.YthbdhijkdldmoaaGreatDoor
