/-
  DERIVED. GIVEN WITH THE SEED: THE CARDS: each row of YtjcijogdcafloaaDoorRows.lean that lists a variable, with what it lists TIED to the program's text (the seventh form; the later family's looks); each row that meets fmt, with fmt's text TOLD by the authors' own Lean function (tested against real Go, not proved from fmt's source: count such statements apart). THE CARD IS WHAT COUNTS. Prove the row's statement (the work); the ties are given (YtjcijogdcafloaaDoorTie.lean); close each card by the builder's one call (the guide's Derived/Test/ToyasCard.lean, 'card_holds'). Laid BY PROGRAM, IN A SANDBOX (cutbox-door.mjs). By AI agents, Wed Nov 11 2026. No macro, syntax, notation, axiom, sorry.
-/
import Derived.Test.YtjcijogdcafloaaDoorRows
import GoSem.ClaimSeven
namespace Go.Proofs.YtjcijogdcafloaaDoor
namespace Rows

/-- THE TIED CARD OF 'printworkskeep3.FoldLeavesBackToBack'. -/
def foldLeavesBackToBackCard : Claim7 := { stood := { row := foldLeavesBackToBackRow, standIns := [], harness := (true, "1708aea3554c7e47afa996c2355928ff5a769b545a3678fbd3ef1dd5af7cbd25"), looks := false }, kinds := [], alts := [], laidByText := true, laidKinds := [.data, .data, .data], laidTests := true, laidLooks := .later }
def FoldLeavesBackToBackCardSaid : Prop := Claim7.holds Tryd.pinned (.plain (OpenSpec.ofChange foldLeavesBackToBackSpec)) foldLeavesBackToBackCard

/-- THE TIED CARD OF 'printworkskeep3.FoldEveryPlaceOnce'. -/
def foldEveryPlaceOnceCard : Claim7 := { stood := { row := foldEveryPlaceOnceRow, standIns := [], harness := (true, "1708aea3554c7e47afa996c2355928ff5a769b545a3678fbd3ef1dd5af7cbd25"), looks := false }, kinds := [], alts := [], laidByText := true, laidKinds := [.data, .data, .data], laidTests := true, laidLooks := .later }
def FoldEveryPlaceOnceCardSaid : Prop := Claim7.holds Tryd.pinned (.plain (OpenSpec.ofChange foldEveryPlaceOnceSpec)) foldEveryPlaceOnceCard

/-- THE TIED CARD OF 'printworkskeep3.FoldLeavesRemain'. -/
def foldLeavesRemainCard : Claim7 := { stood := { row := foldLeavesRemainRow, standIns := [], harness := (true, "1708aea3554c7e47afa996c2355928ff5a769b545a3678fbd3ef1dd5af7cbd25"), looks := false }, kinds := [], alts := [], laidByText := true, laidKinds := [.data, .data, .data], laidTests := true, laidLooks := .later }
def FoldLeavesRemainCardSaid : Prop := Claim7.holds Tryd.pinned (.plain (OpenSpec.ofChange foldLeavesRemainSpec)) foldLeavesRemainCard

/-- THE TIED CARD OF 'printworkskeep3.FoldTurnedOver'. -/
def foldTurnedOverCard : Claim7 := { stood := { row := foldTurnedOverRow, standIns := [], harness := (true, "1708aea3554c7e47afa996c2355928ff5a769b545a3678fbd3ef1dd5af7cbd25"), looks := false }, kinds := [], alts := [], laidByText := true, laidKinds := [.data, .data, .data], laidTests := true, laidLooks := .later }
def FoldTurnedOverCardSaid : Prop := Claim7.holds Tryd.pinned (.plain (OpenSpec.ofChange foldTurnedOverSpec)) foldTurnedOverCard

/-- THE TIED CARD OF 'printworkskeep3.FoldPairsNest'. -/
def foldPairsNestCard : Claim7 := { stood := { row := foldPairsNestRow, standIns := [], harness := (true, "1708aea3554c7e47afa996c2355928ff5a769b545a3678fbd3ef1dd5af7cbd25"), looks := false }, kinds := [], alts := [], laidByText := true, laidKinds := [.data, .data, .data], laidTests := true, laidLooks := .later }
def FoldPairsNestCardSaid : Prop := Claim7.holds Tryd.pinned (.plain (OpenSpec.ofChange foldPairsNestSpec)) foldPairsNestCard

/-- THE TIED CARD OF 'printworkskeep3.FoldTextRoundTrip'. -/
def foldTextRoundTripCard : Claim7 := { stood := { row := foldTextRoundTripRow, standIns := [], harness := (true, "1708aea3554c7e47afa996c2355928ff5a769b545a3678fbd3ef1dd5af7cbd25"), looks := false }, kinds := [], alts := [], laidByText := true, laidKinds := [.data, .data, .data, .data, .pinned], laidTests := true, laidLooks := .later }
def FoldTextRoundTripCardSaid : Prop := Claim7.holds Tryd.pinned (.plain (OpenSpec.ofChange foldTextRoundTripSpec)) foldTextRoundTripCard

/-- THE SECOND FORM's CARD OF 'printworkskeep3.FoldLeavesBackToBack'. -/
def foldLeavesBackToBackUptoCard : Claim7 := { stood := { row := foldLeavesBackToBackUptoRow, standIns := [], harness := (true, "1708aea3554c7e47afa996c2355928ff5a769b545a3678fbd3ef1dd5af7cbd25"), looks := false }, kinds := [], alts := [], laidByText := true, laidKinds := [.data, .data, .data], laidTests := true, laidLooks := .later }
def FoldLeavesBackToBackUptoCardSaid : Prop := Claim7.holds Tryd.pinned (.plain (OpenSpec.upto foldLeavesBackToBackSpec)) foldLeavesBackToBackUptoCard

/-- THE SECOND FORM's CARD OF 'printworkskeep3.FoldEveryPlaceOnce'. -/
def foldEveryPlaceOnceUptoCard : Claim7 := { stood := { row := foldEveryPlaceOnceUptoRow, standIns := [], harness := (true, "1708aea3554c7e47afa996c2355928ff5a769b545a3678fbd3ef1dd5af7cbd25"), looks := false }, kinds := [], alts := [], laidByText := true, laidKinds := [.data, .data, .data], laidTests := true, laidLooks := .later }
def FoldEveryPlaceOnceUptoCardSaid : Prop := Claim7.holds Tryd.pinned (.plain (OpenSpec.upto foldEveryPlaceOnceSpec)) foldEveryPlaceOnceUptoCard

/-- THE SECOND FORM's CARD OF 'printworkskeep3.FoldLeavesRemain'. -/
def foldLeavesRemainUptoCard : Claim7 := { stood := { row := foldLeavesRemainUptoRow, standIns := [], harness := (true, "1708aea3554c7e47afa996c2355928ff5a769b545a3678fbd3ef1dd5af7cbd25"), looks := false }, kinds := [], alts := [], laidByText := true, laidKinds := [.data, .data, .data], laidTests := true, laidLooks := .later }
def FoldLeavesRemainUptoCardSaid : Prop := Claim7.holds Tryd.pinned (.plain (OpenSpec.upto foldLeavesRemainSpec)) foldLeavesRemainUptoCard

/-- THE SECOND FORM's CARD OF 'printworkskeep3.FoldTurnedOver'. -/
def foldTurnedOverUptoCard : Claim7 := { stood := { row := foldTurnedOverUptoRow, standIns := [], harness := (true, "1708aea3554c7e47afa996c2355928ff5a769b545a3678fbd3ef1dd5af7cbd25"), looks := false }, kinds := [], alts := [], laidByText := true, laidKinds := [.data, .data, .data], laidTests := true, laidLooks := .later }
def FoldTurnedOverUptoCardSaid : Prop := Claim7.holds Tryd.pinned (.plain (OpenSpec.upto foldTurnedOverSpec)) foldTurnedOverUptoCard

/-- THE SECOND FORM's CARD OF 'printworkskeep3.FoldPairsNest'. -/
def foldPairsNestUptoCard : Claim7 := { stood := { row := foldPairsNestUptoRow, standIns := [], harness := (true, "1708aea3554c7e47afa996c2355928ff5a769b545a3678fbd3ef1dd5af7cbd25"), looks := false }, kinds := [], alts := [], laidByText := true, laidKinds := [.data, .data, .data], laidTests := true, laidLooks := .later }
def FoldPairsNestUptoCardSaid : Prop := Claim7.holds Tryd.pinned (.plain (OpenSpec.upto foldPairsNestSpec)) foldPairsNestUptoCard

/-- THE SECOND FORM's CARD OF 'printworkskeep3.FoldTextRoundTrip'. -/
def foldTextRoundTripUptoCard : Claim7 := { stood := { row := foldTextRoundTripUptoRow, standIns := [], harness := (true, "1708aea3554c7e47afa996c2355928ff5a769b545a3678fbd3ef1dd5af7cbd25"), looks := false }, kinds := [], alts := [], laidByText := true, laidKinds := [.data, .data, .data, .data, .pinned], laidTests := true, laidLooks := .later }
def FoldTextRoundTripUptoCardSaid : Prop := Claim7.holds Tryd.pinned (.plain (OpenSpec.upto foldTextRoundTripSpec)) foldTextRoundTripUptoCard
end Rows
end Go.Proofs.YtjcijogdcafloaaDoor
