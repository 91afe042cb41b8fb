/-
  DERIVED. GIVEN WITH THE SEED: THE CARDS: each row of YtonmpealebggoaaDoorRows.lean that lists a variable, with what it lists TIED to the program's text (the seventh form; the later family's looks); each row that meets fmt, with fmt's text TOLD by the authors' own Lean function (tested against real Go, not proved from fmt's source: count such statements apart). THE CARD IS WHAT COUNTS. Prove the row's statement (the work); the ties are given (YtonmpealebggoaaDoorTie.lean); close each card by the builder's one call (the guide's Derived/Test/ToyasCard.lean, 'card_holds'). Laid BY PROGRAM, IN A SANDBOX (cutbox-door.mjs). By AI agents, Wed Nov 11 2026. No macro, syntax, notation, axiom, sorry.
-/
import Derived.Test.YtonmpealebggoaaDoorRows
import GoSem.ClaimSeven
namespace Go.Proofs.YtonmpealebggoaaDoor
namespace Rows

/-- THE TIED CARD OF 'printworkskeep3.PrepressPrintParse'. -/
def prepressPrintParseCard : Claim7 := { stood := { row := prepressPrintParseRow, standIns := [], harness := (true, "bd4e0947d10281980cb87a480d50108c68335e6b5bbd7eeeb897fbd3f854e031"), looks := true }, kinds := [], alts := [], laidByText := true, laidKinds := [.data, .data, .data, .data, .sentinel, .sentinel, .pinned], laidTests := true, laidLooks := .later }
def PrepressPrintParseCardSaid : Prop := Claim7.holds Tryd.pinned (.plain (OpenSpec.ofChange prepressPrintParseSpec)) prepressPrintParseCard

/-- THE TIED CARD OF 'printworkskeep3.PrepressParsePrefix'. -/
def prepressParsePrefixCard : Claim7 := { stood := { row := prepressParsePrefixRow, standIns := [], harness := (true, "bd4e0947d10281980cb87a480d50108c68335e6b5bbd7eeeb897fbd3f854e031"), looks := true }, kinds := [], alts := [], laidByText := true, laidKinds := [.data, .data, .data, .data, .sentinel, .sentinel, .pinned], laidTests := true, laidLooks := .later }
def PrepressParsePrefixCardSaid : Prop := Claim7.holds Tryd.pinned (.plain (OpenSpec.ofChange prepressParsePrefixSpec)) prepressParsePrefixCard

/-- THE TIED CARD OF 'printworkskeep3.PrepressReasonsSuffice'. -/
def prepressReasonsSufficeCard : Claim7 := { stood := { row := prepressReasonsSufficeRow, standIns := [], harness := (true, "bd4e0947d10281980cb87a480d50108c68335e6b5bbd7eeeb897fbd3f854e031"), looks := true }, kinds := [], alts := [], laidByText := true, laidKinds := [.data, .data, .data, .data, .pinned], laidTests := true, laidLooks := .later }
def PrepressReasonsSufficeCardSaid : Prop := Claim7.holds Tryd.pinned (.plain (OpenSpec.ofChange prepressReasonsSufficeSpec)) prepressReasonsSufficeCard

/-- THE TIED CARD OF 'printworkskeep3.PrepressReasonsMinimal'. -/
def prepressReasonsMinimalCard : Claim7 := { stood := { row := prepressReasonsMinimalRow, standIns := [], harness := (true, "bd4e0947d10281980cb87a480d50108c68335e6b5bbd7eeeb897fbd3f854e031"), looks := true }, kinds := [], alts := [], laidByText := true, laidKinds := [.data, .data, .data, .data, .pinned], laidTests := true, laidLooks := .later }
def PrepressReasonsMinimalCardSaid : Prop := Claim7.holds Tryd.pinned (.plain (OpenSpec.ofChange prepressReasonsMinimalSpec)) prepressReasonsMinimalCard

/-- THE TIED CARD OF 'printworkskeep3.PrepressSpacesAndParentheses'. -/
def prepressSpacesAndParenthesesCard : Claim7 := { stood := { row := prepressSpacesAndParenthesesRow, standIns := [], harness := (true, "bd4e0947d10281980cb87a480d50108c68335e6b5bbd7eeeb897fbd3f854e031"), looks := true }, kinds := [], alts := [], laidByText := true, laidKinds := [.data, .data, .data, .data, .sentinel, .sentinel, .pinned], laidTests := true, laidLooks := .later }
def PrepressSpacesAndParenthesesCardSaid : Prop := Claim7.holds Tryd.pinned (.plain (OpenSpec.ofChange prepressSpacesAndParenthesesSpec)) prepressSpacesAndParenthesesCard

/-- THE SECOND FORM's CARD OF 'printworkskeep3.PrepressPrintParse'. -/
def prepressPrintParseUptoCard : Claim7 := { stood := { row := prepressPrintParseUptoRow, standIns := [], harness := (true, "bd4e0947d10281980cb87a480d50108c68335e6b5bbd7eeeb897fbd3f854e031"), looks := true }, kinds := [], alts := [], laidByText := true, laidKinds := [.data, .data, .data, .data, .sentinel, .sentinel, .pinned], laidTests := true, laidLooks := .later }
def PrepressPrintParseUptoCardSaid : Prop := Claim7.holds Tryd.pinned (.plain (OpenSpec.upto prepressPrintParseSpec)) prepressPrintParseUptoCard

/-- THE SECOND FORM's CARD OF 'printworkskeep3.PrepressParsePrefix'. -/
def prepressParsePrefixUptoCard : Claim7 := { stood := { row := prepressParsePrefixUptoRow, standIns := [], harness := (true, "bd4e0947d10281980cb87a480d50108c68335e6b5bbd7eeeb897fbd3f854e031"), looks := true }, kinds := [], alts := [], laidByText := true, laidKinds := [.data, .data, .data, .data, .sentinel, .sentinel, .pinned], laidTests := true, laidLooks := .later }
def PrepressParsePrefixUptoCardSaid : Prop := Claim7.holds Tryd.pinned (.plain (OpenSpec.upto prepressParsePrefixSpec)) prepressParsePrefixUptoCard

/-- THE SECOND FORM's CARD OF 'printworkskeep3.PrepressReasonsSuffice'. -/
def prepressReasonsSufficeUptoCard : Claim7 := { stood := { row := prepressReasonsSufficeUptoRow, standIns := [], harness := (true, "bd4e0947d10281980cb87a480d50108c68335e6b5bbd7eeeb897fbd3f854e031"), looks := true }, kinds := [], alts := [], laidByText := true, laidKinds := [.data, .data, .data, .data, .pinned], laidTests := true, laidLooks := .later }
def PrepressReasonsSufficeUptoCardSaid : Prop := Claim7.holds Tryd.pinned (.plain (OpenSpec.upto prepressReasonsSufficeSpec)) prepressReasonsSufficeUptoCard

/-- THE SECOND FORM's CARD OF 'printworkskeep3.PrepressReasonsMinimal'. -/
def prepressReasonsMinimalUptoCard : Claim7 := { stood := { row := prepressReasonsMinimalUptoRow, standIns := [], harness := (true, "bd4e0947d10281980cb87a480d50108c68335e6b5bbd7eeeb897fbd3f854e031"), looks := true }, kinds := [], alts := [], laidByText := true, laidKinds := [.data, .data, .data, .data, .pinned], laidTests := true, laidLooks := .later }
def PrepressReasonsMinimalUptoCardSaid : Prop := Claim7.holds Tryd.pinned (.plain (OpenSpec.upto prepressReasonsMinimalSpec)) prepressReasonsMinimalUptoCard

/-- THE SECOND FORM's CARD OF 'printworkskeep3.PrepressSpacesAndParentheses'. -/
def prepressSpacesAndParenthesesUptoCard : Claim7 := { stood := { row := prepressSpacesAndParenthesesUptoRow, standIns := [], harness := (true, "bd4e0947d10281980cb87a480d50108c68335e6b5bbd7eeeb897fbd3f854e031"), looks := true }, kinds := [], alts := [], laidByText := true, laidKinds := [.data, .data, .data, .data, .sentinel, .sentinel, .pinned], laidTests := true, laidLooks := .later }
def PrepressSpacesAndParenthesesUptoCardSaid : Prop := Claim7.holds Tryd.pinned (.plain (OpenSpec.upto prepressSpacesAndParenthesesSpec)) prepressSpacesAndParenthesesUptoCard
end Rows
end Go.Proofs.YtonmpealebggoaaDoor
