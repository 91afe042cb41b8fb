/-
  No cell of these rows narrows 'for every input' (looked for: loops, veiled, ifaces, maps, wideKeys, modest, calm, conditions, laid).
  DERIVED. THE GIVEN ROWS OF THIS SEAT. 6 by the template 'for every input the law returns true; each argument reads behind the call as it read before'; 0 by the template 'total and deterministic' (their statements: YtjcijogdcafloaaTotals.lean).
  GIVEN WITH THE SEED: the statements are not yours to turn. If you find one false, say at which input.
  Laid BY PROGRAM, IN A SANDBOX (cutbox-rows.mjs): the forced cells as the released guide's own fill.sh prints them over the translation cd162e4d3a0d0395… (all of the seat's roots in one cut). By AI agents, Wed Nov 11 2026. No macro, syntax, notation, axiom, sorry.
-/
import Derived.Test.YtjcijogdcafloaaChecked
import GoSem.Claim
import GoSem.ClaimJoined
import GoSem.ClaimMapViews
import Derived.JoinedTies
import Derived.KernelRfl
namespace Go.Proofs.Ytjcijogdcafloaa
/- THE CELL 'sum', in the pinned program and in every row, IS THE sha256 OF THE DUMP (.gsa) THAT YtjcijogdcafloaaProg.lean LOADS. Nothing in Lean hashes anything: it is a label: what it is worth is what the hold of that sum in a sandbox is worth. -/
noncomputable def Try.pinned : Pinned := { name := "ytjcijogdcafloaa", sum := "cd162e4d3a0d03956384a891779255bbeef668289c758afea9723c1e5e15a2a8", checked := Try.checked }
namespace Rows
def none {H : Type} : Left H := { results := [], args := [] }

/-- 'printworkskeep3.ImposePlacesDisjoint': WHATEVER THE INPUT: true; the input reads as it did. -/
def imposePlacesDisjointSpec : ChangeSpec := { name := "imposePlacesDisjoint", fn := fun _ => fun
  | [d] => { results := [.lit (.bool true)], args := [d] }
  | _ => none }
def imposePlacesDisjointRow : OpenClaim := { program := "ytjcijogdcafloaa", sum := "cd162e4d3a0d03956384a891779255bbeef668289c758afea9723c1e5e15a2a8", func := "printworks/printworkskeep3.ImposePlacesDisjoint", spec := "imposePlacesDisjoint", unfollowed := true, recurses := true, apart := false }
def ImposePlacesDisjointSaid : Prop := imposePlacesDisjointRow.holds Try.pinned (OpenSpec.ofChange imposePlacesDisjointSpec)

/-- ITS FALSE NEIGHBOUR: 'it returns false'. Refute it at one input. -/
def imposePlacesDisjointWrong : ChangeSpec := { name := "imposePlacesDisjoint", fn := fun _ => fun
  | [d] => { results := [.lit (.bool false)], args := [d] }
  | _ => none }
def ImposePlacesDisjointWrongFalsely : Prop := imposePlacesDisjointRow.holds Try.pinned (OpenSpec.ofChange imposePlacesDisjointWrong)

/-- 'printworkskeep3.ImposeRegisters': WHATEVER THE INPUT: true; the input reads as it did. -/
def imposeRegistersSpec : ChangeSpec := { name := "imposeRegisters", fn := fun _ => fun
  | [d] => { results := [.lit (.bool true)], args := [d] }
  | _ => none }
def imposeRegistersRow : OpenClaim := { program := "ytjcijogdcafloaa", sum := "cd162e4d3a0d03956384a891779255bbeef668289c758afea9723c1e5e15a2a8", func := "printworks/printworkskeep3.ImposeRegisters", spec := "imposeRegisters", unfollowed := true, recurses := true, apart := false }
def ImposeRegistersSaid : Prop := imposeRegistersRow.holds Try.pinned (OpenSpec.ofChange imposeRegistersSpec)

/-- ITS FALSE NEIGHBOUR: 'it returns false'. Refute it at one input. -/
def imposeRegistersWrong : ChangeSpec := { name := "imposeRegisters", fn := fun _ => fun
  | [d] => { results := [.lit (.bool false)], args := [d] }
  | _ => none }
def ImposeRegistersWrongFalsely : Prop := imposeRegistersRow.holds Try.pinned (OpenSpec.ofChange imposeRegistersWrong)

/-- 'printworkskeep3.ImposeMarksOutsidePages': WHATEVER THE INPUT: true; the input reads as it did. -/
def imposeMarksOutsidePagesSpec : ChangeSpec := { name := "imposeMarksOutsidePages", fn := fun _ => fun
  | [d] => { results := [.lit (.bool true)], args := [d] }
  | _ => none }
def imposeMarksOutsidePagesRow : OpenClaim := { program := "ytjcijogdcafloaa", sum := "cd162e4d3a0d03956384a891779255bbeef668289c758afea9723c1e5e15a2a8", func := "printworks/printworkskeep3.ImposeMarksOutsidePages", spec := "imposeMarksOutsidePages", unfollowed := true, recurses := true, apart := false }
def ImposeMarksOutsidePagesSaid : Prop := imposeMarksOutsidePagesRow.holds Try.pinned (OpenSpec.ofChange imposeMarksOutsidePagesSpec)

/-- ITS FALSE NEIGHBOUR: 'it returns false'. Refute it at one input. -/
def imposeMarksOutsidePagesWrong : ChangeSpec := { name := "imposeMarksOutsidePages", fn := fun _ => fun
  | [d] => { results := [.lit (.bool false)], args := [d] }
  | _ => none }
def ImposeMarksOutsidePagesWrongFalsely : Prop := imposeMarksOutsidePagesRow.holds Try.pinned (OpenSpec.ofChange imposeMarksOutsidePagesWrong)

/-- 'printworkskeep3.ImposeFewerPages': WHATEVER THE INPUT: true; the input reads as it did. -/
def imposeFewerPagesSpec : ChangeSpec := { name := "imposeFewerPages", fn := fun _ => fun
  | [d1, d2, d3] => { results := [.lit (.bool true)], args := [d1, d2, d3] }
  | _ => none }
def imposeFewerPagesRow : OpenClaim := { program := "ytjcijogdcafloaa", sum := "cd162e4d3a0d03956384a891779255bbeef668289c758afea9723c1e5e15a2a8", func := "printworks/printworkskeep3.ImposeFewerPages", spec := "imposeFewerPages", unfollowed := true, recurses := true, apart := false }
def ImposeFewerPagesSaid : Prop := imposeFewerPagesRow.holds Try.pinned (OpenSpec.ofChange imposeFewerPagesSpec)

/-- ITS FALSE NEIGHBOUR: 'it returns false'. Refute it at one input. -/
def imposeFewerPagesWrong : ChangeSpec := { name := "imposeFewerPages", fn := fun _ => fun
  | [d1, d2, d3] => { results := [.lit (.bool false)], args := [d1, d2, d3] }
  | _ => none }
def ImposeFewerPagesWrongFalsely : Prop := imposeFewerPagesRow.holds Try.pinned (OpenSpec.ofChange imposeFewerPagesWrong)

/-- 'printworkskeep3.BinderyCutKeepsPixels': WHATEVER THE INPUT: true; the input reads as it did. -/
def binderyCutKeepsPixelsSpec : ChangeSpec := { name := "binderyCutKeepsPixels", fn := fun _ => fun
  | [d1, d2, d3] => { results := [.lit (.bool true)], args := [d1, d2, d3] }
  | _ => none }
def binderyCutKeepsPixelsRow : OpenClaim := { program := "ytjcijogdcafloaa", sum := "cd162e4d3a0d03956384a891779255bbeef668289c758afea9723c1e5e15a2a8", func := "printworks/printworkskeep3.BinderyCutKeepsPixels", spec := "binderyCutKeepsPixels", unfollowed := true, recurses := true, apart := false }
def BinderyCutKeepsPixelsSaid : Prop := binderyCutKeepsPixelsRow.holds Try.pinned (OpenSpec.ofChange binderyCutKeepsPixelsSpec)

/-- ITS FALSE NEIGHBOUR: 'it returns false'. Refute it at one input. -/
def binderyCutKeepsPixelsWrong : ChangeSpec := { name := "binderyCutKeepsPixels", fn := fun _ => fun
  | [d1, d2, d3] => { results := [.lit (.bool false)], args := [d1, d2, d3] }
  | _ => none }
def BinderyCutKeepsPixelsWrongFalsely : Prop := binderyCutKeepsPixelsRow.holds Try.pinned (OpenSpec.ofChange binderyCutKeepsPixelsWrong)

/-- 'printworkskeep3.BinderyReadsPages': WHATEVER THE INPUT: true; the input reads as it did. -/
def binderyReadsPagesSpec : ChangeSpec := { name := "binderyReadsPages", fn := fun _ => fun
  | [d] => { results := [.lit (.bool true)], args := [d] }
  | _ => none }
def binderyReadsPagesRow : OpenClaim := { program := "ytjcijogdcafloaa", sum := "cd162e4d3a0d03956384a891779255bbeef668289c758afea9723c1e5e15a2a8", func := "printworks/printworkskeep3.BinderyReadsPages", spec := "binderyReadsPages", unfollowed := true, recurses := true, apart := false }
def BinderyReadsPagesSaid : Prop := binderyReadsPagesRow.holds Try.pinned (OpenSpec.ofChange binderyReadsPagesSpec)

/-- ITS FALSE NEIGHBOUR: 'it returns false'. Refute it at one input. -/
def binderyReadsPagesWrong : ChangeSpec := { name := "binderyReadsPages", fn := fun _ => fun
  | [d] => { results := [.lit (.bool false)], args := [d] }
  | _ => none }
def BinderyReadsPagesWrongFalsely : Prop := binderyReadsPagesRow.holds Try.pinned (OpenSpec.ofChange binderyReadsPagesWrong)

/- THE SECOND FORM. 'bulk': how many values and letters a reading holds, each counted each time it is reached (what is shared counts as often as it is met; a slice's spare places count too). A statement '..UptoSaid' is the law's where the arguments, and the package variables that the reading takes, are together of bulk at most 1048576: NARROWER than '..Said'. Prove '..Said' where nothing that the law and all that it calls make is longer than what came in: it says more and counts as full. Else prove '..UptoSaid'. A law counts once. -/
mutual
def uptoBulk {H : Type} : DataW H → Nat
  | .lit (.string bytes) => bytes.length + 1
  | .lit _ => 1
  | .nil => 1
  | .ptr d => uptoBulk d + 1
  | .slice elems spare => uptoBulkAll elems + uptoBulkAll spare + 1
  | .agg parts => uptoBulkAll parts + 1
  | .iface _ d => uptoBulk d + 1
  | .map entries => uptoBulkEntries entries + 1
  | .held _ => 1
def uptoBulkAll {H : Type} : List (DataW H) → Nat
  | [] => 0
  | d :: r => uptoBulk d + uptoBulkAll r
def uptoBulkEntries {H : Type} : List (Lit × DataW H) → Nat
  | [] => 0
  | x :: r => uptoBulkEntry x + uptoBulkEntries r
def uptoBulkEntry {H : Type} : Lit × DataW H → Nat
  | (.string bytes, d) => bytes.length + uptoBulk d + 1
  | (_, d) => uptoBulk d + 1
 end
def uptoSmall : (H : Type) → List (DataW H) → Bool := fun _ ds => decide (uptoBulkAll ds ≤ 1048576)
def OpenSpec.upto (s : _root_.Go.ChangeSpec) : _root_.Go.OpenSpec := { _root_.Go.OpenSpec.ofChange s with cond := some uptoSmall }

/-- 'printworkskeep3.ImposePlacesDisjoint', WHERE WHAT IT READS IS OF BULK AT MOST 1048576: true; the input reads as it did. -/
def imposePlacesDisjointUptoRow : OpenClaim := { program := "ytjcijogdcafloaa", sum := "cd162e4d3a0d03956384a891779255bbeef668289c758afea9723c1e5e15a2a8", func := "printworks/printworkskeep3.ImposePlacesDisjoint", spec := "imposePlacesDisjoint", unfollowed := true, recurses := true, apart := false, narrowed := true }
def ImposePlacesDisjointUptoSaid : Prop := imposePlacesDisjointUptoRow.holds Try.pinned (OpenSpec.upto imposePlacesDisjointSpec)

/-- 'printworkskeep3.ImposeRegisters', WHERE WHAT IT READS IS OF BULK AT MOST 1048576: true; the input reads as it did. -/
def imposeRegistersUptoRow : OpenClaim := { program := "ytjcijogdcafloaa", sum := "cd162e4d3a0d03956384a891779255bbeef668289c758afea9723c1e5e15a2a8", func := "printworks/printworkskeep3.ImposeRegisters", spec := "imposeRegisters", unfollowed := true, recurses := true, apart := false, narrowed := true }
def ImposeRegistersUptoSaid : Prop := imposeRegistersUptoRow.holds Try.pinned (OpenSpec.upto imposeRegistersSpec)

/-- 'printworkskeep3.ImposeMarksOutsidePages', WHERE WHAT IT READS IS OF BULK AT MOST 1048576: true; the input reads as it did. -/
def imposeMarksOutsidePagesUptoRow : OpenClaim := { program := "ytjcijogdcafloaa", sum := "cd162e4d3a0d03956384a891779255bbeef668289c758afea9723c1e5e15a2a8", func := "printworks/printworkskeep3.ImposeMarksOutsidePages", spec := "imposeMarksOutsidePages", unfollowed := true, recurses := true, apart := false, narrowed := true }
def ImposeMarksOutsidePagesUptoSaid : Prop := imposeMarksOutsidePagesUptoRow.holds Try.pinned (OpenSpec.upto imposeMarksOutsidePagesSpec)

/-- 'printworkskeep3.ImposeFewerPages', WHERE WHAT IT READS IS OF BULK AT MOST 1048576: true; the input reads as it did. -/
def imposeFewerPagesUptoRow : OpenClaim := { program := "ytjcijogdcafloaa", sum := "cd162e4d3a0d03956384a891779255bbeef668289c758afea9723c1e5e15a2a8", func := "printworks/printworkskeep3.ImposeFewerPages", spec := "imposeFewerPages", unfollowed := true, recurses := true, apart := false, narrowed := true }
def ImposeFewerPagesUptoSaid : Prop := imposeFewerPagesUptoRow.holds Try.pinned (OpenSpec.upto imposeFewerPagesSpec)

/-- 'printworkskeep3.BinderyCutKeepsPixels', WHERE WHAT IT READS IS OF BULK AT MOST 1048576: true; the input reads as it did. -/
def binderyCutKeepsPixelsUptoRow : OpenClaim := { program := "ytjcijogdcafloaa", sum := "cd162e4d3a0d03956384a891779255bbeef668289c758afea9723c1e5e15a2a8", func := "printworks/printworkskeep3.BinderyCutKeepsPixels", spec := "binderyCutKeepsPixels", unfollowed := true, recurses := true, apart := false, narrowed := true }
def BinderyCutKeepsPixelsUptoSaid : Prop := binderyCutKeepsPixelsUptoRow.holds Try.pinned (OpenSpec.upto binderyCutKeepsPixelsSpec)

/-- 'printworkskeep3.BinderyReadsPages', WHERE WHAT IT READS IS OF BULK AT MOST 1048576: true; the input reads as it did. -/
def binderyReadsPagesUptoRow : OpenClaim := { program := "ytjcijogdcafloaa", sum := "cd162e4d3a0d03956384a891779255bbeef668289c758afea9723c1e5e15a2a8", func := "printworks/printworkskeep3.BinderyReadsPages", spec := "binderyReadsPages", unfollowed := true, recurses := true, apart := false, narrowed := true }
def BinderyReadsPagesUptoSaid : Prop := binderyReadsPagesUptoRow.holds Try.pinned (OpenSpec.upto binderyReadsPagesSpec)

end Rows
end Go.Proofs.Ytjcijogdcafloaa
