/-
  DERIVED. GIVEN WITH THE SEED: THE CARDS: each row of YtefkglmdkjkbiaaDoorRows.lean that lists a variable, with what it lists TIED to the program's text (the seventh form; the later family's looks); each row that meets fmt, with fmt's text TOLD by the authors' own Lean function (tested against real Go, not proved from fmt's source: count such statements apart). THE CARD IS WHAT COUNTS. Prove the row's statement (the work); the ties are given (YtefkglmdkjkbiaaDoorTie.lean); close each card by the builder's one call (the guide's Derived/Test/ToyasCard.lean, 'card_holds'). Laid BY PROGRAM, IN A SANDBOX (cutbox-door.mjs). By AI agents, Wed Nov 11 2026. No macro, syntax, notation, axiom, sorry.
-/
import Derived.Test.YtefkglmdkjkbiaaDoorRows
import GoSem.ClaimSeven
namespace Go.Proofs.YtefkglmdkjkbiaaDoor
namespace Rows

/-- THE TIED CARD OF 'printworkskeep3.FontPlacesDivide'. -/
def fontPlacesDivideCard : Claim7 := { stood := { row := fontPlacesDivideRow, standIns := [], harness := (true, "21866453bd053c7b2fdea3660eef49191d995a7a9b8e98136b15caf0f696e493"), looks := false }, kinds := [], alts := [], laidByText := true, laidKinds := [.data], laidTests := true, laidLooks := .later }
def FontPlacesDivideCardSaid : Prop := Claim7.holds Tryd.pinned (.plain (OpenSpec.ofChange fontPlacesDivideSpec)) fontPlacesDivideCard

/-- THE TIED CARD OF 'printworkskeep3.FontDecodeUnique'. -/
def fontDecodeUniqueCard : Claim7 := { stood := { row := fontDecodeUniqueRow, standIns := [], harness := (true, "21866453bd053c7b2fdea3660eef49191d995a7a9b8e98136b15caf0f696e493"), looks := false }, kinds := [], alts := [], laidByText := true, laidKinds := [.data], laidTests := true, laidLooks := .later }
def FontDecodeUniqueCardSaid : Prop := Claim7.holds Tryd.pinned (.plain (OpenSpec.ofChange fontDecodeUniqueSpec)) fontDecodeUniqueCard

/-- THE TIED CARD OF 'printworkskeep3.FontEncodeDecode'. -/
def fontEncodeDecodeCard : Claim7 := { stood := { row := fontEncodeDecodeRow, standIns := [], harness := (true, "21866453bd053c7b2fdea3660eef49191d995a7a9b8e98136b15caf0f696e493"), looks := false }, kinds := [], alts := [], laidByText := true, laidKinds := [.data], laidTests := true, laidLooks := .later }
def FontEncodeDecodeCardSaid : Prop := Claim7.holds Tryd.pinned (.plain (OpenSpec.ofChange fontEncodeDecodeSpec)) fontEncodeDecodeCard

/-- THE TIED CARD OF 'printworkskeep3.FontSubsetTwice'. -/
def fontSubsetTwiceCard : Claim7 := { stood := { row := fontSubsetTwiceRow, standIns := [], harness := (true, "21866453bd053c7b2fdea3660eef49191d995a7a9b8e98136b15caf0f696e493"), looks := false }, kinds := [], alts := [], laidByText := true, laidKinds := [.data], laidTests := true, laidLooks := .later }
def FontSubsetTwiceCardSaid : Prop := Claim7.holds Tryd.pinned (.plain (OpenSpec.ofChange fontSubsetTwiceSpec)) fontSubsetTwiceCard

/-- THE TIED CARD OF 'printworkskeep3.FontSubsetKeepsText'. -/
def fontSubsetKeepsTextCard : Claim7 := { stood := { row := fontSubsetKeepsTextRow, standIns := [], harness := (true, "21866453bd053c7b2fdea3660eef49191d995a7a9b8e98136b15caf0f696e493"), looks := false }, kinds := [], alts := [], laidByText := true, laidKinds := [.data], laidTests := true, laidLooks := .later }
def FontSubsetKeepsTextCardSaid : Prop := Claim7.holds Tryd.pinned (.plain (OpenSpec.ofChange fontSubsetKeepsTextSpec)) fontSubsetKeepsTextCard

/-- THE TIED CARD OF 'printworkskeep3.ParaSetOneLine'. -/
def paraSetOneLineCard : Claim7 := { stood := { row := paraSetOneLineRow, standIns := [], harness := (true, "21866453bd053c7b2fdea3660eef49191d995a7a9b8e98136b15caf0f696e493"), looks := false }, kinds := [], alts := [], laidByText := true, laidKinds := [.data, .data, .pinned], laidTests := true, laidLooks := .later }
def ParaSetOneLineCardSaid : Prop := Claim7.holds Tryd.pinned (.plain (OpenSpec.ofChange paraSetOneLineSpec)) paraSetOneLineCard

/-- THE SECOND FORM's CARD OF 'printworkskeep3.FontPlacesDivide'. -/
def fontPlacesDivideUptoCard : Claim7 := { stood := { row := fontPlacesDivideUptoRow, standIns := [], harness := (true, "21866453bd053c7b2fdea3660eef49191d995a7a9b8e98136b15caf0f696e493"), looks := false }, kinds := [], alts := [], laidByText := true, laidKinds := [.data], laidTests := true, laidLooks := .later }
def FontPlacesDivideUptoCardSaid : Prop := Claim7.holds Tryd.pinned (.plain (OpenSpec.upto fontPlacesDivideSpec)) fontPlacesDivideUptoCard

/-- THE SECOND FORM's CARD OF 'printworkskeep3.FontDecodeUnique'. -/
def fontDecodeUniqueUptoCard : Claim7 := { stood := { row := fontDecodeUniqueUptoRow, standIns := [], harness := (true, "21866453bd053c7b2fdea3660eef49191d995a7a9b8e98136b15caf0f696e493"), looks := false }, kinds := [], alts := [], laidByText := true, laidKinds := [.data], laidTests := true, laidLooks := .later }
def FontDecodeUniqueUptoCardSaid : Prop := Claim7.holds Tryd.pinned (.plain (OpenSpec.upto fontDecodeUniqueSpec)) fontDecodeUniqueUptoCard

/-- THE SECOND FORM's CARD OF 'printworkskeep3.FontEncodeDecode'. -/
def fontEncodeDecodeUptoCard : Claim7 := { stood := { row := fontEncodeDecodeUptoRow, standIns := [], harness := (true, "21866453bd053c7b2fdea3660eef49191d995a7a9b8e98136b15caf0f696e493"), looks := false }, kinds := [], alts := [], laidByText := true, laidKinds := [.data], laidTests := true, laidLooks := .later }
def FontEncodeDecodeUptoCardSaid : Prop := Claim7.holds Tryd.pinned (.plain (OpenSpec.upto fontEncodeDecodeSpec)) fontEncodeDecodeUptoCard

/-- THE SECOND FORM's CARD OF 'printworkskeep3.FontSubsetTwice'. -/
def fontSubsetTwiceUptoCard : Claim7 := { stood := { row := fontSubsetTwiceUptoRow, standIns := [], harness := (true, "21866453bd053c7b2fdea3660eef49191d995a7a9b8e98136b15caf0f696e493"), looks := false }, kinds := [], alts := [], laidByText := true, laidKinds := [.data], laidTests := true, laidLooks := .later }
def FontSubsetTwiceUptoCardSaid : Prop := Claim7.holds Tryd.pinned (.plain (OpenSpec.upto fontSubsetTwiceSpec)) fontSubsetTwiceUptoCard

/-- THE SECOND FORM's CARD OF 'printworkskeep3.FontSubsetKeepsText'. -/
def fontSubsetKeepsTextUptoCard : Claim7 := { stood := { row := fontSubsetKeepsTextUptoRow, standIns := [], harness := (true, "21866453bd053c7b2fdea3660eef49191d995a7a9b8e98136b15caf0f696e493"), looks := false }, kinds := [], alts := [], laidByText := true, laidKinds := [.data], laidTests := true, laidLooks := .later }
def FontSubsetKeepsTextUptoCardSaid : Prop := Claim7.holds Tryd.pinned (.plain (OpenSpec.upto fontSubsetKeepsTextSpec)) fontSubsetKeepsTextUptoCard

/-- THE SECOND FORM's CARD OF 'printworkskeep3.ParaSetOneLine'. -/
def paraSetOneLineUptoCard : Claim7 := { stood := { row := paraSetOneLineUptoRow, standIns := [], harness := (true, "21866453bd053c7b2fdea3660eef49191d995a7a9b8e98136b15caf0f696e493"), looks := false }, kinds := [], alts := [], laidByText := true, laidKinds := [.data, .data, .pinned], laidTests := true, laidLooks := .later }
def ParaSetOneLineUptoCardSaid : Prop := Claim7.holds Tryd.pinned (.plain (OpenSpec.upto paraSetOneLineSpec)) paraSetOneLineUptoCard
end Rows
end Go.Proofs.YtefkglmdkjkbiaaDoor
