/-
  DERIVED. GIVEN WITH THE SEED: THE CARDS: each row of YtdibgloaknnfgaaDoorRows.lean that lists a variable, with what it lists TIED to the program's text (the seventh form; the later family's looks); each row that meets fmt, with fmt's text TOLD by the authors' own Lean function (tested against real Go, not proved from fmt's source: count such statements apart). THE CARD IS WHAT COUNTS. Prove the row's statement (the work); the ties are given (YtdibgloaknnfgaaDoorTie.lean); close each card by the builder's one call (the guide's Derived/Test/ToyasCard.lean, 'card_holds'). Laid BY PROGRAM, IN A SANDBOX (cutbox-door.mjs). By AI agents, Wed Nov 11 2026. No macro, syntax, notation, axiom, sorry.
-/
import Derived.Test.YtdibgloaknnfgaaDoorRows
import GoSem.ClaimSeven
namespace Go.Proofs.YtdibgloaknnfgaaDoor
namespace Rows

/-- THE TIED CARD OF 'printworkskeep3.FilterBurstsDetected'. -/
def filterBurstsDetectedCard : Claim7 := { stood := { row := filterBurstsDetectedRow, standIns := [], harness := (true, "0cffc907d74b31ac40f01e45ce65916630a566617cc393416a00d23ff1b61f7d"), looks := false }, kinds := [], alts := [], laidByText := true, laidKinds := [.data], laidTests := true, laidLooks := .later }
def FilterBurstsDetectedCardSaid : Prop := Claim7.holds Tryd.pinned (.plain (OpenSpec.ofChange filterBurstsDetectedSpec)) filterBurstsDetectedCard

/-- THE TIED CARD OF 'printworkskeep3.FilterJoinConcatenates'. -/
def filterJoinConcatenatesCard : Claim7 := { stood := { row := filterJoinConcatenatesRow, standIns := [], harness := (true, "0cffc907d74b31ac40f01e45ce65916630a566617cc393416a00d23ff1b61f7d"), looks := false }, kinds := [], alts := [], laidByText := true, laidKinds := [.data], laidTests := true, laidLooks := .later }
def FilterJoinConcatenatesCardSaid : Prop := Claim7.holds Tryd.pinned (.plain (OpenSpec.ofChange filterJoinConcatenatesSpec)) filterJoinConcatenatesCard

/-- THE TIED CARD OF 'printworkskeep3.FilterHexUnique'. -/
def filterHexUniqueCard : Claim7 := { stood := { row := filterHexUniqueRow, standIns := [], harness := (true, "0cffc907d74b31ac40f01e45ce65916630a566617cc393416a00d23ff1b61f7d"), looks := false }, kinds := [], alts := [], laidByText := true, laidKinds := [.data], laidTests := true, laidLooks := .later }
def FilterHexUniqueCardSaid : Prop := Claim7.holds Tryd.pinned (.plain (OpenSpec.ofChange filterHexUniqueSpec)) filterHexUniqueCard

/-- THE SECOND FORM's CARD OF 'printworkskeep3.FilterBurstsDetected'. -/
def filterBurstsDetectedUptoCard : Claim7 := { stood := { row := filterBurstsDetectedUptoRow, standIns := [], harness := (true, "0cffc907d74b31ac40f01e45ce65916630a566617cc393416a00d23ff1b61f7d"), looks := false }, kinds := [], alts := [], laidByText := true, laidKinds := [.data], laidTests := true, laidLooks := .later }
def FilterBurstsDetectedUptoCardSaid : Prop := Claim7.holds Tryd.pinned (.plain (OpenSpec.upto filterBurstsDetectedSpec)) filterBurstsDetectedUptoCard

/-- THE SECOND FORM's CARD OF 'printworkskeep3.FilterJoinConcatenates'. -/
def filterJoinConcatenatesUptoCard : Claim7 := { stood := { row := filterJoinConcatenatesUptoRow, standIns := [], harness := (true, "0cffc907d74b31ac40f01e45ce65916630a566617cc393416a00d23ff1b61f7d"), looks := false }, kinds := [], alts := [], laidByText := true, laidKinds := [.data], laidTests := true, laidLooks := .later }
def FilterJoinConcatenatesUptoCardSaid : Prop := Claim7.holds Tryd.pinned (.plain (OpenSpec.upto filterJoinConcatenatesSpec)) filterJoinConcatenatesUptoCard

/-- THE SECOND FORM's CARD OF 'printworkskeep3.FilterHexUnique'. -/
def filterHexUniqueUptoCard : Claim7 := { stood := { row := filterHexUniqueUptoRow, standIns := [], harness := (true, "0cffc907d74b31ac40f01e45ce65916630a566617cc393416a00d23ff1b61f7d"), looks := false }, kinds := [], alts := [], laidByText := true, laidKinds := [.data], laidTests := true, laidLooks := .later }
def FilterHexUniqueUptoCardSaid : Prop := Claim7.holds Tryd.pinned (.plain (OpenSpec.upto filterHexUniqueSpec)) filterHexUniqueUptoCard
end Rows
end Go.Proofs.YtdibgloaknnfgaaDoor
