/-
  DERIVED. GIVEN WITH THE SEED: THE CARDS: each row of YtjmanooedgfbaaaDoorRows.lean that lists a variable, with what it lists TIED to the program's text (the seventh form; the later family's looks); each row that meets fmt, with fmt's text TOLD by the authors' own Lean function (tested against real Go, not proved from fmt's source: count such statements apart). THE CARD IS WHAT COUNTS. Prove the row's statement (the work); the ties are given (YtjmanooedgfbaaaDoorTie.lean); close each card by the builder's one call (the guide's Derived/Test/ToyasCard.lean, 'card_holds'). Laid BY PROGRAM, IN A SANDBOX (cutbox-door.mjs). By AI agents, Wed Nov 11 2026. No macro, syntax, notation, axiom, sorry.
-/
import Derived.Test.YtjmanooedgfbaaaDoorRows
import GoSem.ClaimSeven
namespace Go.Proofs.YtjmanooedgfbaaaDoor
namespace Rows

/-- THE TIED CARD OF 'printworkskeep3.FoldTextRoundTrip'. -/
def foldTextRoundTripCard : Claim7 := { stood := { row := foldTextRoundTripRow, standIns := [], harness := (true, "895d29069bdf9969cb6c07537fc27235cc3401f21faae74f6e638e8c47a2c254"), looks := false }, kinds := [], alts := [], laidByText := true, laidKinds := [.data, .data, .data, .data, .pinned], laidTests := true, laidLooks := .later }
def FoldTextRoundTripCardSaid : Prop := Claim7.holds Tryd.pinned (.plain (OpenSpec.ofChange foldTextRoundTripSpec)) foldTextRoundTripCard

/-- THE SECOND FORM's CARD OF 'printworkskeep3.FoldTextRoundTrip'. -/
def foldTextRoundTripUptoCard : Claim7 := { stood := { row := foldTextRoundTripUptoRow, standIns := [], harness := (true, "895d29069bdf9969cb6c07537fc27235cc3401f21faae74f6e638e8c47a2c254"), looks := false }, kinds := [], alts := [], laidByText := true, laidKinds := [.data, .data, .data, .data, .pinned], laidTests := true, laidLooks := .later }
def FoldTextRoundTripUptoCardSaid : Prop := Claim7.holds Tryd.pinned (.plain (OpenSpec.upto foldTextRoundTripSpec)) foldTextRoundTripUptoCard
end Rows
end Go.Proofs.YtjmanooedgfbaaaDoor
