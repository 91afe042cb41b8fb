/-
  DERIVED. GIVEN WITH THE SEED: THE CARDS: each row of YtenhaohooknkfaaDoorRows.lean that lists a variable, with what it lists TIED to the program's text (the seventh form; the later family's looks); each row that meets fmt, with fmt's text TOLD by the authors' own Lean function (tested against real Go, not proved from fmt's source: count such statements apart). THE CARD IS WHAT COUNTS. Prove the row's statement (the work); the ties are given (YtenhaohooknkfaaDoorTie.lean); close each card by the builder's one call (the guide's Derived/Test/ToyasCard.lean, 'card_holds'). Laid BY PROGRAM, IN A SANDBOX (cutbox-door.mjs). By AI agents, Wed Nov 11 2026. No macro, syntax, notation, axiom, sorry.
-/
import Derived.Test.YtenhaohooknkfaaDoorRows
import GoSem.ClaimSeven
namespace Go.Proofs.YtenhaohooknkfaaDoor
namespace Rows

/-- THE TIED CARD OF 'printworkskeep3.TokenPlacesCoverSource'. -/
def tokenPlacesCoverSourceCard : Claim7 := { stood := { row := tokenPlacesCoverSourceRow, standIns := [], harness := (true, "7e23c5fc785781352908cc6b9ab025585a7e2c3fbc4d3a8ea547d1b1fd9a7acb"), looks := true }, kinds := [], alts := [], laidByText := true, laidKinds := [.data, .data, .data, .sentinel, .sentinel], laidTests := true, laidLooks := .later }
def TokenPlacesCoverSourceCardSaid : Prop := Claim7.holds Tryd.pinned (.plain (OpenSpec.ofChange tokenPlacesCoverSourceSpec)) tokenPlacesCoverSourceCard

/-- THE TIED CARD OF 'printworkskeep3.TokenLinesConcatenate'. -/
def tokenLinesConcatenateCard : Claim7 := { stood := { row := tokenLinesConcatenateRow, standIns := [], harness := (true, "7e23c5fc785781352908cc6b9ab025585a7e2c3fbc4d3a8ea547d1b1fd9a7acb"), looks := true }, kinds := [], alts := [], laidByText := true, laidKinds := [.data, .data, .data, .sentinel, .sentinel], laidTests := true, laidLooks := .later }
def TokenLinesConcatenateCardSaid : Prop := Claim7.holds Tryd.pinned (.plain (OpenSpec.ofChange tokenLinesConcatenateSpec)) tokenLinesConcatenateCard

/-- THE TIED CARD OF 'printworkskeep3.TokenHexEqualsPlain'. -/
def tokenHexEqualsPlainCard : Claim7 := { stood := { row := tokenHexEqualsPlainRow, standIns := [], harness := (true, "7e23c5fc785781352908cc6b9ab025585a7e2c3fbc4d3a8ea547d1b1fd9a7acb"), looks := true }, kinds := [], alts := [], laidByText := true, laidKinds := [.data, .data, .data, .sentinel, .sentinel], laidTests := true, laidLooks := .later }
def TokenHexEqualsPlainCardSaid : Prop := Claim7.holds Tryd.pinned (.plain (OpenSpec.ofChange tokenHexEqualsPlainSpec)) tokenHexEqualsPlainCard

/-- THE TIED CARD OF 'printworkskeep3.TokenJoinRoundTrip'. -/
def tokenJoinRoundTripCard : Claim7 := { stood := { row := tokenJoinRoundTripRow, standIns := [], harness := (true, "7e23c5fc785781352908cc6b9ab025585a7e2c3fbc4d3a8ea547d1b1fd9a7acb"), looks := true }, kinds := [], alts := [], laidByText := true, laidKinds := [.data, .data, .data, .sentinel, .sentinel], laidTests := true, laidLooks := .later }
def TokenJoinRoundTripCardSaid : Prop := Claim7.holds Tryd.pinned (.plain (OpenSpec.ofChange tokenJoinRoundTripSpec)) tokenJoinRoundTripCard

/-- THE TIED CARD OF 'printworkskeep3.TokenSeparatorsNeeded'. -/
def tokenSeparatorsNeededCard : Claim7 := { stood := { row := tokenSeparatorsNeededRow, standIns := [], harness := (true, "7e23c5fc785781352908cc6b9ab025585a7e2c3fbc4d3a8ea547d1b1fd9a7acb"), looks := true }, kinds := [], alts := [], laidByText := true, laidKinds := [.data, .data, .data, .sentinel, .sentinel], laidTests := true, laidLooks := .later }
def TokenSeparatorsNeededCardSaid : Prop := Claim7.holds Tryd.pinned (.plain (OpenSpec.ofChange tokenSeparatorsNeededSpec)) tokenSeparatorsNeededCard

/-- THE SECOND FORM's CARD OF 'printworkskeep3.TokenPlacesCoverSource'. -/
def tokenPlacesCoverSourceUptoCard : Claim7 := { stood := { row := tokenPlacesCoverSourceUptoRow, standIns := [], harness := (true, "7e23c5fc785781352908cc6b9ab025585a7e2c3fbc4d3a8ea547d1b1fd9a7acb"), looks := true }, kinds := [], alts := [], laidByText := true, laidKinds := [.data, .data, .data, .sentinel, .sentinel], laidTests := true, laidLooks := .later }
def TokenPlacesCoverSourceUptoCardSaid : Prop := Claim7.holds Tryd.pinned (.plain (OpenSpec.upto tokenPlacesCoverSourceSpec)) tokenPlacesCoverSourceUptoCard

/-- THE SECOND FORM's CARD OF 'printworkskeep3.TokenLinesConcatenate'. -/
def tokenLinesConcatenateUptoCard : Claim7 := { stood := { row := tokenLinesConcatenateUptoRow, standIns := [], harness := (true, "7e23c5fc785781352908cc6b9ab025585a7e2c3fbc4d3a8ea547d1b1fd9a7acb"), looks := true }, kinds := [], alts := [], laidByText := true, laidKinds := [.data, .data, .data, .sentinel, .sentinel], laidTests := true, laidLooks := .later }
def TokenLinesConcatenateUptoCardSaid : Prop := Claim7.holds Tryd.pinned (.plain (OpenSpec.upto tokenLinesConcatenateSpec)) tokenLinesConcatenateUptoCard

/-- THE SECOND FORM's CARD OF 'printworkskeep3.TokenHexEqualsPlain'. -/
def tokenHexEqualsPlainUptoCard : Claim7 := { stood := { row := tokenHexEqualsPlainUptoRow, standIns := [], harness := (true, "7e23c5fc785781352908cc6b9ab025585a7e2c3fbc4d3a8ea547d1b1fd9a7acb"), looks := true }, kinds := [], alts := [], laidByText := true, laidKinds := [.data, .data, .data, .sentinel, .sentinel], laidTests := true, laidLooks := .later }
def TokenHexEqualsPlainUptoCardSaid : Prop := Claim7.holds Tryd.pinned (.plain (OpenSpec.upto tokenHexEqualsPlainSpec)) tokenHexEqualsPlainUptoCard

/-- THE SECOND FORM's CARD OF 'printworkskeep3.TokenJoinRoundTrip'. -/
def tokenJoinRoundTripUptoCard : Claim7 := { stood := { row := tokenJoinRoundTripUptoRow, standIns := [], harness := (true, "7e23c5fc785781352908cc6b9ab025585a7e2c3fbc4d3a8ea547d1b1fd9a7acb"), looks := true }, kinds := [], alts := [], laidByText := true, laidKinds := [.data, .data, .data, .sentinel, .sentinel], laidTests := true, laidLooks := .later }
def TokenJoinRoundTripUptoCardSaid : Prop := Claim7.holds Tryd.pinned (.plain (OpenSpec.upto tokenJoinRoundTripSpec)) tokenJoinRoundTripUptoCard

/-- THE SECOND FORM's CARD OF 'printworkskeep3.TokenSeparatorsNeeded'. -/
def tokenSeparatorsNeededUptoCard : Claim7 := { stood := { row := tokenSeparatorsNeededUptoRow, standIns := [], harness := (true, "7e23c5fc785781352908cc6b9ab025585a7e2c3fbc4d3a8ea547d1b1fd9a7acb"), looks := true }, kinds := [], alts := [], laidByText := true, laidKinds := [.data, .data, .data, .sentinel, .sentinel], laidTests := true, laidLooks := .later }
def TokenSeparatorsNeededUptoCardSaid : Prop := Claim7.holds Tryd.pinned (.plain (OpenSpec.upto tokenSeparatorsNeededSpec)) tokenSeparatorsNeededUptoCard
end Rows
end Go.Proofs.YtenhaohooknkfaaDoor
