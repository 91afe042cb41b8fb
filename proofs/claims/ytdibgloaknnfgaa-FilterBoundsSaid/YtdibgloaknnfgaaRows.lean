/-
  No cell of these rows narrows 'for every input' (looked for: loops, veiled, ifaces, maps, wideKeys, modest, calm, conditions, laid).
  DERIVED. THE GIVEN ROWS OF THIS SEAT. 4 by the template 'for every input the law returns true; each argument reads behind the call as it read before'; 0 by the template 'total and deterministic' (their statements: YtdibgloaknnfgaaTotals.lean).
  GIVEN WITH THE SEED: the statements are not yours to turn. If you find one false, say at which input.
  Laid BY PROGRAM, IN A SANDBOX (cutbox-rows.mjs): the forced cells as the released guide's own fill.sh prints them over the translation b3818abe696df5f2… (all of the seat's roots in one cut). By AI agents, Wed Nov 11 2026. No macro, syntax, notation, axiom, sorry.
-/
import Derived.Test.YtdibgloaknnfgaaChecked
import GoSem.Claim
import GoSem.ClaimJoined
import GoSem.ClaimMapViews
import Derived.JoinedTies
import Derived.KernelRfl
namespace Go.Proofs.Ytdibgloaknnfgaa
/- THE CELL 'sum', in the pinned program and in every row, IS THE sha256 OF THE DUMP (.gsa) THAT YtdibgloaknnfgaaProg.lean LOADS. Nothing in Lean hashes anything: it is a label: what it is worth is what the hold of that sum in a sandbox is worth. -/
noncomputable def Try.pinned : Pinned := { name := "ytdibgloaknnfgaa", sum := "b3818abe696df5f2182993421bde193466072c5d974889e7d7acc9bf40675f21", checked := Try.checked }
namespace Rows
def none {H : Type} : Left H := { results := [], args := [] }

/-- 'printworkskeep3.FilterBounds': WHATEVER THE INPUT: true; the input reads as it did. -/
def filterBoundsSpec : ChangeSpec := { name := "filterBounds", fn := fun _ => fun
  | [d] => { results := [.lit (.bool true)], args := [d] }
  | _ => none }
def filterBoundsRow : OpenClaim := { program := "ytdibgloaknnfgaa", sum := "b3818abe696df5f2182993421bde193466072c5d974889e7d7acc9bf40675f21", func := "printworks/printworkskeep3.FilterBounds", spec := "filterBounds", unfollowed := true, recurses := true, plainKeys := false, apart := false }
def FilterBoundsSaid : Prop := filterBoundsRow.holds Try.pinned (OpenSpec.ofChange filterBoundsSpec)

/-- ITS FALSE NEIGHBOUR: 'it returns false'. Refute it at one input. -/
def filterBoundsWrong : ChangeSpec := { name := "filterBounds", fn := fun _ => fun
  | [d] => { results := [.lit (.bool false)], args := [d] }
  | _ => none }
def FilterBoundsWrongFalsely : Prop := filterBoundsRow.holds Try.pinned (OpenSpec.ofChange filterBoundsWrong)

/-- 'printworkskeep3.FilterRowsAdd': WHATEVER THE INPUT: true; the input reads as it did. -/
def filterRowsAddSpec : ChangeSpec := { name := "filterRowsAdd", fn := fun _ => fun
  | [d1, d2, d3] => { results := [.lit (.bool true)], args := [d1, d2, d3] }
  | _ => none }
def filterRowsAddRow : OpenClaim := { program := "ytdibgloaknnfgaa", sum := "b3818abe696df5f2182993421bde193466072c5d974889e7d7acc9bf40675f21", func := "printworks/printworkskeep3.FilterRowsAdd", spec := "filterRowsAdd", unfollowed := true, recurses := true, plainKeys := false, apart := false }
def FilterRowsAddSaid : Prop := filterRowsAddRow.holds Try.pinned (OpenSpec.ofChange filterRowsAddSpec)

/-- ITS FALSE NEIGHBOUR: 'it returns false'. Refute it at one input. -/
def filterRowsAddWrong : ChangeSpec := { name := "filterRowsAdd", fn := fun _ => fun
  | [d1, d2, d3] => { results := [.lit (.bool false)], args := [d1, d2, d3] }
  | _ => none }
def FilterRowsAddWrongFalsely : Prop := filterRowsAddRow.holds Try.pinned (OpenSpec.ofChange filterRowsAddWrong)

/-- 'printworkskeep3.FilterRoundTrip': WHATEVER THE INPUT: true; the input reads as it did. -/
def filterRoundTripSpec : ChangeSpec := { name := "filterRoundTrip", fn := fun _ => fun
  | [d1, d2] => { results := [.lit (.bool true)], args := [d1, d2] }
  | _ => none }
def filterRoundTripRow : OpenClaim := { program := "ytdibgloaknnfgaa", sum := "b3818abe696df5f2182993421bde193466072c5d974889e7d7acc9bf40675f21", func := "printworks/printworkskeep3.FilterRoundTrip", spec := "filterRoundTrip", unfollowed := true, recurses := true, plainKeys := false, apart := false }
def FilterRoundTripSaid : Prop := filterRoundTripRow.holds Try.pinned (OpenSpec.ofChange filterRoundTripSpec)

/-- ITS FALSE NEIGHBOUR: 'it returns false'. Refute it at one input. -/
def filterRoundTripWrong : ChangeSpec := { name := "filterRoundTrip", fn := fun _ => fun
  | [d1, d2] => { results := [.lit (.bool false)], args := [d1, d2] }
  | _ => none }
def FilterRoundTripWrongFalsely : Prop := filterRoundTripRow.holds Try.pinned (OpenSpec.ofChange filterRoundTripWrong)

/-- 'printworkskeep3.FilterTextUnique': WHATEVER THE INPUT: true; the input reads as it did. -/
def filterTextUniqueSpec : ChangeSpec := { name := "filterTextUnique", fn := fun _ => fun
  | [d] => { results := [.lit (.bool true)], args := [d] }
  | _ => none }
def filterTextUniqueRow : OpenClaim := { program := "ytdibgloaknnfgaa", sum := "b3818abe696df5f2182993421bde193466072c5d974889e7d7acc9bf40675f21", func := "printworks/printworkskeep3.FilterTextUnique", spec := "filterTextUnique", unfollowed := true, recurses := true, plainKeys := false, apart := false }
def FilterTextUniqueSaid : Prop := filterTextUniqueRow.holds Try.pinned (OpenSpec.ofChange filterTextUniqueSpec)

/-- ITS FALSE NEIGHBOUR: 'it returns false'. Refute it at one input. -/
def filterTextUniqueWrong : ChangeSpec := { name := "filterTextUnique", fn := fun _ => fun
  | [d] => { results := [.lit (.bool false)], args := [d] }
  | _ => none }
def FilterTextUniqueWrongFalsely : Prop := filterTextUniqueRow.holds Try.pinned (OpenSpec.ofChange filterTextUniqueWrong)

/- THE SECOND FORM. 'bulk': how many values and letters a reading holds, each counted each time it is reached (what is shared counts as often as it is met; a slice's spare places count too). A statement '..UptoSaid' is the law's where the arguments, and the package variables that the reading takes, are together of bulk at most 1048576: NARROWER than '..Said'. Prove '..Said' where nothing that the law and all that it calls make is longer than what came in: it says more and counts as full. Else prove '..UptoSaid'. A law counts once. -/
mutual
def uptoBulk {H : Type} : DataW H → Nat
  | .lit (.string bytes) => bytes.length + 1
  | .lit _ => 1
  | .nil => 1
  | .ptr d => uptoBulk d + 1
  | .slice elems spare => uptoBulkAll elems + uptoBulkAll spare + 1
  | .agg parts => uptoBulkAll parts + 1
  | .iface _ d => uptoBulk d + 1
  | .map entries => uptoBulkEntries entries + 1
  | .held _ => 1
def uptoBulkAll {H : Type} : List (DataW H) → Nat
  | [] => 0
  | d :: r => uptoBulk d + uptoBulkAll r
def uptoBulkEntries {H : Type} : List (Lit × DataW H) → Nat
  | [] => 0
  | x :: r => uptoBulkEntry x + uptoBulkEntries r
def uptoBulkEntry {H : Type} : Lit × DataW H → Nat
  | (.string bytes, d) => bytes.length + uptoBulk d + 1
  | (_, d) => uptoBulk d + 1
 end
def uptoSmall : (H : Type) → List (DataW H) → Bool := fun _ ds => decide (uptoBulkAll ds ≤ 1048576)
def OpenSpec.upto (s : _root_.Go.ChangeSpec) : _root_.Go.OpenSpec := { _root_.Go.OpenSpec.ofChange s with cond := some uptoSmall }

/-- 'printworkskeep3.FilterBounds', WHERE WHAT IT READS IS OF BULK AT MOST 1048576: true; the input reads as it did. -/
def filterBoundsUptoRow : OpenClaim := { program := "ytdibgloaknnfgaa", sum := "b3818abe696df5f2182993421bde193466072c5d974889e7d7acc9bf40675f21", func := "printworks/printworkskeep3.FilterBounds", spec := "filterBounds", unfollowed := true, recurses := true, plainKeys := false, apart := false, narrowed := true }
def FilterBoundsUptoSaid : Prop := filterBoundsUptoRow.holds Try.pinned (OpenSpec.upto filterBoundsSpec)

/-- 'printworkskeep3.FilterRowsAdd', WHERE WHAT IT READS IS OF BULK AT MOST 1048576: true; the input reads as it did. -/
def filterRowsAddUptoRow : OpenClaim := { program := "ytdibgloaknnfgaa", sum := "b3818abe696df5f2182993421bde193466072c5d974889e7d7acc9bf40675f21", func := "printworks/printworkskeep3.FilterRowsAdd", spec := "filterRowsAdd", unfollowed := true, recurses := true, plainKeys := false, apart := false, narrowed := true }
def FilterRowsAddUptoSaid : Prop := filterRowsAddUptoRow.holds Try.pinned (OpenSpec.upto filterRowsAddSpec)

/-- 'printworkskeep3.FilterRoundTrip', WHERE WHAT IT READS IS OF BULK AT MOST 1048576: true; the input reads as it did. -/
def filterRoundTripUptoRow : OpenClaim := { program := "ytdibgloaknnfgaa", sum := "b3818abe696df5f2182993421bde193466072c5d974889e7d7acc9bf40675f21", func := "printworks/printworkskeep3.FilterRoundTrip", spec := "filterRoundTrip", unfollowed := true, recurses := true, plainKeys := false, apart := false, narrowed := true }
def FilterRoundTripUptoSaid : Prop := filterRoundTripUptoRow.holds Try.pinned (OpenSpec.upto filterRoundTripSpec)

/-- 'printworkskeep3.FilterTextUnique', WHERE WHAT IT READS IS OF BULK AT MOST 1048576: true; the input reads as it did. -/
def filterTextUniqueUptoRow : OpenClaim := { program := "ytdibgloaknnfgaa", sum := "b3818abe696df5f2182993421bde193466072c5d974889e7d7acc9bf40675f21", func := "printworks/printworkskeep3.FilterTextUnique", spec := "filterTextUnique", unfollowed := true, recurses := true, plainKeys := false, apart := false, narrowed := true }
def FilterTextUniqueUptoSaid : Prop := filterTextUniqueUptoRow.holds Try.pinned (OpenSpec.upto filterTextUniqueSpec)

end Rows
end Go.Proofs.Ytdibgloaknnfgaa
