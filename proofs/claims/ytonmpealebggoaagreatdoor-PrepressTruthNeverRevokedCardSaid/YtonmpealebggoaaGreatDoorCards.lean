/-
  DERIVED. GIVEN WITH THE SEED: THE CARDS: each row of YtonmpealebggoaaGreatDoorRows.lean that lists a variable, with what it lists TIED to the program's text (the seventh form; the later family's looks); each row that meets fmt, with fmt's text TOLD by the authors' own Lean function (tested against real Go, not proved from fmt's source: count such statements apart). THE CARD IS WHAT COUNTS. Prove the row's statement (the work); the ties are given (YtonmpealebggoaaGreatDoorTie.lean); close each card by the builder's one call (the guide's Derived/Test/ToyasCard.lean, 'card_holds'). Laid BY PROGRAM, IN A SANDBOX (cutbox-door.mjs). By AI agents, Wed Nov 11 2026. No macro, syntax, notation, axiom, sorry.
-/
import Derived.Test.YtonmpealebggoaaGreatDoorRows
import GoSem.ClaimSeven
namespace Go.Proofs.YtonmpealebggoaaGreatDoor
namespace Rows

/-- THE TIED CARD OF 'printworkskeep3.PrepressTruthNeverRevoked'. -/
def prepressTruthNeverRevokedCard : Claim7 := { stood := { row := prepressTruthNeverRevokedRow, standIns := [], harness := (true, "0768c77a43657fc25adc98a77a2da1cc183c30e4338448b952dde9d2277089f5"), looks := true }, kinds := [], alts := [], laidByText := true, laidKinds := [.data, .data, .data, .data, .sentinel, .sentinel, .pinned], laidTests := true, laidLooks := .later }
def PrepressTruthNeverRevokedCardSaid : Prop := Claim7.holds Tryz.pinned (.plain (OpenSpec.ofChange prepressTruthNeverRevokedSpec)) prepressTruthNeverRevokedCard

/-- THE TIED CARD OF 'printworkskeep3.PrepressNotExchanges'. -/
def prepressNotExchangesCard : Claim7 := { stood := { row := prepressNotExchangesRow, standIns := [], harness := (true, "0768c77a43657fc25adc98a77a2da1cc183c30e4338448b952dde9d2277089f5"), looks := true }, kinds := [], alts := [], laidByText := true, laidKinds := [.data, .data, .data, .data, .sentinel, .sentinel, .pinned], laidTests := true, laidLooks := .later }
def PrepressNotExchangesCardSaid : Prop := Claim7.holds Tryz.pinned (.plain (OpenSpec.ofChange prepressNotExchangesSpec)) prepressNotExchangesCard

/-- THE SECOND FORM's CARD OF 'printworkskeep3.PrepressTruthNeverRevoked'. -/
def prepressTruthNeverRevokedUptoCard : Claim7 := { stood := { row := prepressTruthNeverRevokedUptoRow, standIns := [], harness := (true, "0768c77a43657fc25adc98a77a2da1cc183c30e4338448b952dde9d2277089f5"), looks := true }, kinds := [], alts := [], laidByText := true, laidKinds := [.data, .data, .data, .data, .sentinel, .sentinel, .pinned], laidTests := true, laidLooks := .later }
def PrepressTruthNeverRevokedUptoCardSaid : Prop := Claim7.holds Tryz.pinned (.plain (OpenSpec.upto prepressTruthNeverRevokedSpec)) prepressTruthNeverRevokedUptoCard

/-- THE SECOND FORM's CARD OF 'printworkskeep3.PrepressNotExchanges'. -/
def prepressNotExchangesUptoCard : Claim7 := { stood := { row := prepressNotExchangesUptoRow, standIns := [], harness := (true, "0768c77a43657fc25adc98a77a2da1cc183c30e4338448b952dde9d2277089f5"), looks := true }, kinds := [], alts := [], laidByText := true, laidKinds := [.data, .data, .data, .data, .sentinel, .sentinel, .pinned], laidTests := true, laidLooks := .later }
def PrepressNotExchangesUptoCardSaid : Prop := Claim7.holds Tryz.pinned (.plain (OpenSpec.upto prepressNotExchangesSpec)) prepressNotExchangesUptoCard
end Rows
end Go.Proofs.YtonmpealebggoaaGreatDoor
