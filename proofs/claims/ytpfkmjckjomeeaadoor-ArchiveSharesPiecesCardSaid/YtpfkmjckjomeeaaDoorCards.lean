/-
  DERIVED. GIVEN WITH THE SEED: THE CARDS: each row of YtpfkmjckjomeeaaDoorRows.lean that lists a variable, with what it lists TIED to the program's text (the seventh form; the later family's looks); each row that meets fmt, with fmt's text TOLD by the authors' own Lean function (tested against real Go, not proved from fmt's source: count such statements apart). THE CARD IS WHAT COUNTS. Prove the row's statement (the work); the ties are given (YtpfkmjckjomeeaaDoorTie.lean); close each card by the builder's one call (the guide's Derived/Test/ToyasCard.lean, 'card_holds'). Laid BY PROGRAM, IN A SANDBOX (cutbox-door.mjs). By AI agents, Wed Nov 11 2026. No macro, syntax, notation, axiom, sorry.
-/
import Derived.Test.YtpfkmjckjomeeaaDoorRows
import GoSem.ClaimSeven
namespace Go.Proofs.YtpfkmjckjomeeaaDoor
namespace Rows

/-- THE TIED CARD OF 'printworkskeep3.ArchiveCutsLocal'. -/
def archiveCutsLocalCard : Claim7 := { stood := { row := archiveCutsLocalRow, standIns := [], harness := (true, "53c32ead42881a49477d6946eca350567149691bf88198aa09310b4459a9d195"), looks := false }, kinds := [], alts := [], laidByText := true, laidKinds := [.data], laidTests := true, laidLooks := .later }
def ArchiveCutsLocalCardSaid : Prop := Claim7.holds Tryd.pinned (.plain (OpenSpec.ofChange archiveCutsLocalSpec)) archiveCutsLocalCard

/-- THE TIED CARD OF 'printworkskeep3.ArchiveCollectKeepsData'. -/
def archiveCollectKeepsDataCard : Claim7 := { stood := { row := archiveCollectKeepsDataRow, standIns := [], harness := (true, "53c32ead42881a49477d6946eca350567149691bf88198aa09310b4459a9d195"), looks := false }, kinds := [], alts := [], laidByText := true, laidKinds := [.data], laidTests := true, laidLooks := .later }
def ArchiveCollectKeepsDataCardSaid : Prop := Claim7.holds Tryd.pinned (.plain (OpenSpec.ofChange archiveCollectKeepsDataSpec)) archiveCollectKeepsDataCard

/-- THE TIED CARD OF 'printworkskeep3.ArchiveStoresAndReturns'. -/
def archiveStoresAndReturnsCard : Claim7 := { stood := { row := archiveStoresAndReturnsRow, standIns := [], harness := (true, "53c32ead42881a49477d6946eca350567149691bf88198aa09310b4459a9d195"), looks := false }, kinds := [], alts := [], laidByText := true, laidKinds := [.data], laidTests := true, laidLooks := .later }
def ArchiveStoresAndReturnsCardSaid : Prop := Claim7.holds Tryd.pinned (.plain (OpenSpec.ofChange archiveStoresAndReturnsSpec)) archiveStoresAndReturnsCard

/-- THE TIED CARD OF 'printworkskeep3.ArchiveSharesPieces'. -/
def archiveSharesPiecesCard : Claim7 := { stood := { row := archiveSharesPiecesRow, standIns := [], harness := (true, "53c32ead42881a49477d6946eca350567149691bf88198aa09310b4459a9d195"), looks := false }, kinds := [], alts := [], laidByText := true, laidKinds := [.data], laidTests := true, laidLooks := .later }
def ArchiveSharesPiecesCardSaid : Prop := Claim7.holds Tryd.pinned (.plain (OpenSpec.ofChange archiveSharesPiecesSpec)) archiveSharesPiecesCard

/-- THE SECOND FORM's CARD OF 'printworkskeep3.ArchiveCutsLocal'. -/
def archiveCutsLocalUptoCard : Claim7 := { stood := { row := archiveCutsLocalUptoRow, standIns := [], harness := (true, "53c32ead42881a49477d6946eca350567149691bf88198aa09310b4459a9d195"), looks := false }, kinds := [], alts := [], laidByText := true, laidKinds := [.data], laidTests := true, laidLooks := .later }
def ArchiveCutsLocalUptoCardSaid : Prop := Claim7.holds Tryd.pinned (.plain (OpenSpec.upto archiveCutsLocalSpec)) archiveCutsLocalUptoCard

/-- THE SECOND FORM's CARD OF 'printworkskeep3.ArchiveCollectKeepsData'. -/
def archiveCollectKeepsDataUptoCard : Claim7 := { stood := { row := archiveCollectKeepsDataUptoRow, standIns := [], harness := (true, "53c32ead42881a49477d6946eca350567149691bf88198aa09310b4459a9d195"), looks := false }, kinds := [], alts := [], laidByText := true, laidKinds := [.data], laidTests := true, laidLooks := .later }
def ArchiveCollectKeepsDataUptoCardSaid : Prop := Claim7.holds Tryd.pinned (.plain (OpenSpec.upto archiveCollectKeepsDataSpec)) archiveCollectKeepsDataUptoCard

/-- THE SECOND FORM's CARD OF 'printworkskeep3.ArchiveStoresAndReturns'. -/
def archiveStoresAndReturnsUptoCard : Claim7 := { stood := { row := archiveStoresAndReturnsUptoRow, standIns := [], harness := (true, "53c32ead42881a49477d6946eca350567149691bf88198aa09310b4459a9d195"), looks := false }, kinds := [], alts := [], laidByText := true, laidKinds := [.data], laidTests := true, laidLooks := .later }
def ArchiveStoresAndReturnsUptoCardSaid : Prop := Claim7.holds Tryd.pinned (.plain (OpenSpec.upto archiveStoresAndReturnsSpec)) archiveStoresAndReturnsUptoCard

/-- THE SECOND FORM's CARD OF 'printworkskeep3.ArchiveSharesPieces'. -/
def archiveSharesPiecesUptoCard : Claim7 := { stood := { row := archiveSharesPiecesUptoRow, standIns := [], harness := (true, "53c32ead42881a49477d6946eca350567149691bf88198aa09310b4459a9d195"), looks := false }, kinds := [], alts := [], laidByText := true, laidKinds := [.data], laidTests := true, laidLooks := .later }
def ArchiveSharesPiecesUptoCardSaid : Prop := Claim7.holds Tryd.pinned (.plain (OpenSpec.upto archiveSharesPiecesSpec)) archiveSharesPiecesUptoCard
end Rows
end Go.Proofs.YtpfkmjckjomeeaaDoor
