/-
  DERIVED. GIVEN WITH THE SEED: THE CARDS: each row of YtcbnelklilamgaaDoorRows.lean that lists a variable, with what it lists TIED to the program's text (the seventh form; the later family's looks); each row that meets fmt, with fmt's text TOLD by the authors' own Lean function (tested against real Go, not proved from fmt's source: count such statements apart). THE CARD IS WHAT COUNTS. Prove the row's statement (the work); the ties are given (YtcbnelklilamgaaDoorTie.lean); close each card by the builder's one call (the guide's Derived/Test/ToyasCard.lean, 'card_holds'). Laid BY PROGRAM, IN A SANDBOX (cutbox-door.mjs). By AI agents, Wed Nov 11 2026. No macro, syntax, notation, axiom, sorry.
-/
import Derived.Test.YtcbnelklilamgaaDoorRows
import GoSem.ClaimSeven
namespace Go.Proofs.YtcbnelklilamgaaDoor
namespace Rows

/-- THE TIED CARD OF 'printworkskeep3.VaryTableRoundTrip'. -/
def varyTableRoundTripCard : Claim7 := { stood := { row := varyTableRoundTripRow, standIns := [], harness := (true, "ba146f9416dfaefdd69c0b27c1023e1b30b8ea1cec9855b0c89fbcdc74864c2f"), looks := true }, kinds := [], alts := [], laidByText := true, laidKinds := [.data, .pinned], laidTests := true, laidLooks := .later }
def VaryTableRoundTripCardSaid : Prop := Claim7.holds Tryd.pinned (.plain (OpenSpec.ofChange varyTableRoundTripSpec)) varyTableRoundTripCard

/-- THE TIED CARD OF 'printworkskeep3.VaryMergeParts'. -/
def varyMergePartsCard : Claim7 := { stood := { row := varyMergePartsRow, standIns := [], harness := (true, "ba146f9416dfaefdd69c0b27c1023e1b30b8ea1cec9855b0c89fbcdc74864c2f"), looks := true }, kinds := [], alts := [], laidByText := true, laidKinds := [.data, .pinned], laidTests := true, laidLooks := .later }
def VaryMergePartsCardSaid : Prop := Claim7.holds Tryd.pinned (.plain (OpenSpec.ofChange varyMergePartsSpec)) varyMergePartsCard

/-- THE TIED CARD OF 'printworkskeep3.VaryNumberDetectsDigits'. -/
def varyNumberDetectsDigitsCard : Claim7 := { stood := { row := varyNumberDetectsDigitsRow, standIns := [], harness := (true, "ba146f9416dfaefdd69c0b27c1023e1b30b8ea1cec9855b0c89fbcdc74864c2f"), looks := true }, kinds := [], alts := [], laidByText := true, laidKinds := [.data, .data, .data, .sentinel, .sentinel], laidTests := true, laidLooks := .later }
def VaryNumberDetectsDigitsCardSaid : Prop := Claim7.holds Tryd.pinned (.plain (OpenSpec.ofChange varyNumberDetectsDigitsSpec)) varyNumberDetectsDigitsCard

/-- THE SECOND FORM's CARD OF 'printworkskeep3.VaryTableRoundTrip'. -/
def varyTableRoundTripUptoCard : Claim7 := { stood := { row := varyTableRoundTripUptoRow, standIns := [], harness := (true, "ba146f9416dfaefdd69c0b27c1023e1b30b8ea1cec9855b0c89fbcdc74864c2f"), looks := true }, kinds := [], alts := [], laidByText := true, laidKinds := [.data, .pinned], laidTests := true, laidLooks := .later }
def VaryTableRoundTripUptoCardSaid : Prop := Claim7.holds Tryd.pinned (.plain (OpenSpec.upto varyTableRoundTripSpec)) varyTableRoundTripUptoCard

/-- THE SECOND FORM's CARD OF 'printworkskeep3.VaryMergeParts'. -/
def varyMergePartsUptoCard : Claim7 := { stood := { row := varyMergePartsUptoRow, standIns := [], harness := (true, "ba146f9416dfaefdd69c0b27c1023e1b30b8ea1cec9855b0c89fbcdc74864c2f"), looks := true }, kinds := [], alts := [], laidByText := true, laidKinds := [.data, .pinned], laidTests := true, laidLooks := .later }
def VaryMergePartsUptoCardSaid : Prop := Claim7.holds Tryd.pinned (.plain (OpenSpec.upto varyMergePartsSpec)) varyMergePartsUptoCard

/-- THE SECOND FORM's CARD OF 'printworkskeep3.VaryNumberDetectsDigits'. -/
def varyNumberDetectsDigitsUptoCard : Claim7 := { stood := { row := varyNumberDetectsDigitsUptoRow, standIns := [], harness := (true, "ba146f9416dfaefdd69c0b27c1023e1b30b8ea1cec9855b0c89fbcdc74864c2f"), looks := true }, kinds := [], alts := [], laidByText := true, laidKinds := [.data, .data, .data, .sentinel, .sentinel], laidTests := true, laidLooks := .later }
def VaryNumberDetectsDigitsUptoCardSaid : Prop := Claim7.holds Tryd.pinned (.plain (OpenSpec.upto varyNumberDetectsDigitsSpec)) varyNumberDetectsDigitsUptoCard
end Rows
end Go.Proofs.YtcbnelklilamgaaDoor
