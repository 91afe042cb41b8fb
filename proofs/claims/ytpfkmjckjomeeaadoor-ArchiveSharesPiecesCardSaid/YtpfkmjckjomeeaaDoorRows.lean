/-
  NARROWER THAN 'FOR EVERY INPUT', by the rows' own cells (each row's printed sentence says how): ArchiveCutsLocal: laid · ArchiveCollectKeepsData: laid · ArchiveStoresAndReturns: laid · ArchiveSharesPieces: laid.
  DERIVED. THE GIVEN ROWS OF THIS SEAT. 4 by the template 'for every input the law returns true; each argument reads behind the call as it read before'; 0 by the template 'total and deterministic' (their statements: YtpfkmjckjomeeaaDoorTotals.lean).
  GIVEN WITH THE SEED: the statements are not yours to turn. If you find one false, say at which input.
  Laid BY PROGRAM, IN A SANDBOX (cutbox-rows.mjs): the forced cells as the released guide's own fill.sh prints them over the translation 5ae6ea89bcf579c5… (all of the seat's roots in one cut). By AI agents, Wed Nov 11 2026. No macro, syntax, notation, axiom, sorry.
-/
import Derived.Test.YtpfkmjckjomeeaaDoorChecked
import GoSem.Claim
import GoSem.ClaimJoined
import GoSem.ClaimMapViews
import Derived.JoinedTies
import Derived.KernelRfl
namespace Go.Proofs.YtpfkmjckjomeeaaDoor
/- THE CELL 'sum', in the pinned program and in every row, IS THE sha256 OF THE DUMP (.gsa) THAT YtpfkmjckjomeeaaDoorProg.lean LOADS. Nothing in Lean hashes anything: it is a label: what it is worth is what the hold of that sum in a sandbox is worth. -/
noncomputable def Tryd.pinned : Pinned := { name := "ytpfkmjckjomeeaadoor", sum := "5ae6ea89bcf579c5ee9c6c832ffe29e3e7b4835a0d984c2b28ebb711cc1a6648", checked := Tryd.checked }
namespace Rows
def none {H : Type} : Left H := { results := [], args := [] }

/- WHAT THE LISTED PACKAGE-LEVEL VARIABLES READ AS WHEN THE CALL BEGINS. Each datum BY PROGRAM (the guide's laid-datum.mjs) off the statement by which the dump's own 'gosem.cut.vars' lays the variable. In a bare row this is a premise. The card (YtpfkmjckjomeeaaDoorCards.lean) ties it to the program's text. -/
def laid_printworks_filter_steps {H : Type} : DataW H := .agg [.lit (.int .u32 0), .lit (.int .u32 498536548), .lit (.int .u32 997073096), .lit (.int .u32 651767980), .lit (.int .u32 1994146192), .lit (.int .u32 1802195444), .lit (.int .u32 1303535960), .lit (.int .u32 1342533948), .lit (.int .u32 3988292384), .lit (.int .u32 4027552580), .lit (.int .u32 3604390888), .lit (.int .u32 3412177804), .lit (.int .u32 2607071920), .lit (.int .u32 2262029012), .lit (.int .u32 2685067896), .lit (.int .u32 3183342108)]

/-- 'printworkskeep3.ArchiveCutsLocal': WHATEVER THE INPUT: true; the input reads as it did. -/
def archiveCutsLocalSpec : ChangeSpec := { name := "archiveCutsLocal", fn := fun _ => fun
  | [d1, d2] => { results := [.lit (.bool true)], args := [d1, d2] }
  | _ => none }
def archiveCutsLocalRow : OpenClaim := { program := "ytpfkmjckjomeeaadoor", sum := "5ae6ea89bcf579c5ee9c6c832ffe29e3e7b4835a0d984c2b28ebb711cc1a6648", func := "printworks/printworkskeep3.ArchiveCutsLocal", spec := "archiveCutsLocal", inPlace := ["slices.overlaps[string]"], named := ["printworks/filter.steps"], apart := false, laid := [("printworks/filter.steps", laid_printworks_filter_steps)] }
def ArchiveCutsLocalSaid : Prop := archiveCutsLocalRow.holds Tryd.pinned (OpenSpec.ofChange archiveCutsLocalSpec)

/-- ITS FALSE NEIGHBOUR: 'it returns false'. Refute it at one input. -/
def archiveCutsLocalWrong : ChangeSpec := { name := "archiveCutsLocal", fn := fun _ => fun
  | [d1, d2] => { results := [.lit (.bool false)], args := [d1, d2] }
  | _ => none }
def ArchiveCutsLocalWrongFalsely : Prop := archiveCutsLocalRow.holds Tryd.pinned (OpenSpec.ofChange archiveCutsLocalWrong)

/-- 'printworkskeep3.ArchiveCollectKeepsData': WHATEVER THE INPUT: true; the input reads as it did. -/
def archiveCollectKeepsDataSpec : ChangeSpec := { name := "archiveCollectKeepsData", fn := fun _ => fun
  | [d1, d2] => { results := [.lit (.bool true)], args := [d1, d2] }
  | _ => none }
def archiveCollectKeepsDataRow : OpenClaim := { program := "ytpfkmjckjomeeaadoor", sum := "5ae6ea89bcf579c5ee9c6c832ffe29e3e7b4835a0d984c2b28ebb711cc1a6648", func := "printworks/printworkskeep3.ArchiveCollectKeepsData", spec := "archiveCollectKeepsData", inPlace := ["slices.overlaps[string]", "internal/abi.NoEscape"], named := ["printworks/filter.steps"], apart := false, laid := [("printworks/filter.steps", laid_printworks_filter_steps)] }
def ArchiveCollectKeepsDataSaid : Prop := archiveCollectKeepsDataRow.holds Tryd.pinned (OpenSpec.ofChange archiveCollectKeepsDataSpec)

/-- ITS FALSE NEIGHBOUR: 'it returns false'. Refute it at one input. -/
def archiveCollectKeepsDataWrong : ChangeSpec := { name := "archiveCollectKeepsData", fn := fun _ => fun
  | [d1, d2] => { results := [.lit (.bool false)], args := [d1, d2] }
  | _ => none }
def ArchiveCollectKeepsDataWrongFalsely : Prop := archiveCollectKeepsDataRow.holds Tryd.pinned (OpenSpec.ofChange archiveCollectKeepsDataWrong)

/-- 'printworkskeep3.ArchiveStoresAndReturns': WHATEVER THE INPUT: true; the input reads as it did. -/
def archiveStoresAndReturnsSpec : ChangeSpec := { name := "archiveStoresAndReturns", fn := fun _ => fun
  | [d1, d2] => { results := [.lit (.bool true)], args := [d1, d2] }
  | _ => none }
def archiveStoresAndReturnsRow : OpenClaim := { program := "ytpfkmjckjomeeaadoor", sum := "5ae6ea89bcf579c5ee9c6c832ffe29e3e7b4835a0d984c2b28ebb711cc1a6648", func := "printworks/printworkskeep3.ArchiveStoresAndReturns", spec := "archiveStoresAndReturns", inPlace := ["slices.overlaps[string]", "internal/abi.NoEscape"], named := ["printworks/filter.steps"], apart := false, laid := [("printworks/filter.steps", laid_printworks_filter_steps)] }
def ArchiveStoresAndReturnsSaid : Prop := archiveStoresAndReturnsRow.holds Tryd.pinned (OpenSpec.ofChange archiveStoresAndReturnsSpec)

/-- ITS FALSE NEIGHBOUR: 'it returns false'. Refute it at one input. -/
def archiveStoresAndReturnsWrong : ChangeSpec := { name := "archiveStoresAndReturns", fn := fun _ => fun
  | [d1, d2] => { results := [.lit (.bool false)], args := [d1, d2] }
  | _ => none }
def ArchiveStoresAndReturnsWrongFalsely : Prop := archiveStoresAndReturnsRow.holds Tryd.pinned (OpenSpec.ofChange archiveStoresAndReturnsWrong)

/-- 'printworkskeep3.ArchiveSharesPieces': WHATEVER THE INPUT: true; the input reads as it did. -/
def archiveSharesPiecesSpec : ChangeSpec := { name := "archiveSharesPieces", fn := fun _ => fun
  | [d] => { results := [.lit (.bool true)], args := [d] }
  | _ => none }
def archiveSharesPiecesRow : OpenClaim := { program := "ytpfkmjckjomeeaadoor", sum := "5ae6ea89bcf579c5ee9c6c832ffe29e3e7b4835a0d984c2b28ebb711cc1a6648", func := "printworks/printworkskeep3.ArchiveSharesPieces", spec := "archiveSharesPieces", inPlace := ["slices.overlaps[string]"], recurses := true, named := ["printworks/filter.steps"], apart := false, laid := [("printworks/filter.steps", laid_printworks_filter_steps)] }
def ArchiveSharesPiecesSaid : Prop := archiveSharesPiecesRow.holds Tryd.pinned (OpenSpec.ofChange archiveSharesPiecesSpec)

/-- ITS FALSE NEIGHBOUR: 'it returns false'. Refute it at one input. -/
def archiveSharesPiecesWrong : ChangeSpec := { name := "archiveSharesPieces", fn := fun _ => fun
  | [d] => { results := [.lit (.bool false)], args := [d] }
  | _ => none }
def ArchiveSharesPiecesWrongFalsely : Prop := archiveSharesPiecesRow.holds Tryd.pinned (OpenSpec.ofChange archiveSharesPiecesWrong)

/- THE SECOND FORM. 'bulk': how many values and letters a reading holds, each counted each time it is reached (what is shared counts as often as it is met; a slice's spare places count too). A statement '..UptoSaid' is the law's where the arguments, and the package variables that the reading takes, are together of bulk at most 1048576: NARROWER than '..Said'. Prove '..Said' where nothing that the law and all that it calls make is longer than what came in: it says more and counts as full. Else prove '..UptoSaid'. A law counts once. -/
mutual
def uptoBulk {H : Type} : DataW H → Nat
  | .lit (.string bytes) => bytes.length + 1
  | .lit _ => 1
  | .nil => 1
  | .ptr d => uptoBulk d + 1
  | .slice elems spare => uptoBulkAll elems + uptoBulkAll spare + 1
  | .agg parts => uptoBulkAll parts + 1
  | .iface _ d => uptoBulk d + 1
  | .map entries => uptoBulkEntries entries + 1
  | .held _ => 1
def uptoBulkAll {H : Type} : List (DataW H) → Nat
  | [] => 0
  | d :: r => uptoBulk d + uptoBulkAll r
def uptoBulkEntries {H : Type} : List (Lit × DataW H) → Nat
  | [] => 0
  | x :: r => uptoBulkEntry x + uptoBulkEntries r
def uptoBulkEntry {H : Type} : Lit × DataW H → Nat
  | (.string bytes, d) => bytes.length + uptoBulk d + 1
  | (_, d) => uptoBulk d + 1
 end
def uptoSmall : (H : Type) → List (DataW H) → Bool := fun _ ds => decide (uptoBulkAll ds ≤ 1048576)
def OpenSpec.upto (s : _root_.Go.ChangeSpec) : _root_.Go.OpenSpec := { _root_.Go.OpenSpec.ofChange s with cond := some uptoSmall }

/-- 'printworkskeep3.ArchiveCutsLocal', WHERE WHAT IT READS IS OF BULK AT MOST 1048576: true; the input reads as it did. -/
def archiveCutsLocalUptoRow : OpenClaim := { program := "ytpfkmjckjomeeaadoor", sum := "5ae6ea89bcf579c5ee9c6c832ffe29e3e7b4835a0d984c2b28ebb711cc1a6648", func := "printworks/printworkskeep3.ArchiveCutsLocal", spec := "archiveCutsLocal", inPlace := ["slices.overlaps[string]"], named := ["printworks/filter.steps"], apart := false, laid := [("printworks/filter.steps", laid_printworks_filter_steps)], narrowed := true }
def ArchiveCutsLocalUptoSaid : Prop := archiveCutsLocalUptoRow.holds Tryd.pinned (OpenSpec.upto archiveCutsLocalSpec)

/-- 'printworkskeep3.ArchiveCollectKeepsData', WHERE WHAT IT READS IS OF BULK AT MOST 1048576: true; the input reads as it did. -/
def archiveCollectKeepsDataUptoRow : OpenClaim := { program := "ytpfkmjckjomeeaadoor", sum := "5ae6ea89bcf579c5ee9c6c832ffe29e3e7b4835a0d984c2b28ebb711cc1a6648", func := "printworks/printworkskeep3.ArchiveCollectKeepsData", spec := "archiveCollectKeepsData", inPlace := ["slices.overlaps[string]", "internal/abi.NoEscape"], named := ["printworks/filter.steps"], apart := false, laid := [("printworks/filter.steps", laid_printworks_filter_steps)], narrowed := true }
def ArchiveCollectKeepsDataUptoSaid : Prop := archiveCollectKeepsDataUptoRow.holds Tryd.pinned (OpenSpec.upto archiveCollectKeepsDataSpec)

/-- 'printworkskeep3.ArchiveStoresAndReturns', WHERE WHAT IT READS IS OF BULK AT MOST 1048576: true; the input reads as it did. -/
def archiveStoresAndReturnsUptoRow : OpenClaim := { program := "ytpfkmjckjomeeaadoor", sum := "5ae6ea89bcf579c5ee9c6c832ffe29e3e7b4835a0d984c2b28ebb711cc1a6648", func := "printworks/printworkskeep3.ArchiveStoresAndReturns", spec := "archiveStoresAndReturns", inPlace := ["slices.overlaps[string]", "internal/abi.NoEscape"], named := ["printworks/filter.steps"], apart := false, laid := [("printworks/filter.steps", laid_printworks_filter_steps)], narrowed := true }
def ArchiveStoresAndReturnsUptoSaid : Prop := archiveStoresAndReturnsUptoRow.holds Tryd.pinned (OpenSpec.upto archiveStoresAndReturnsSpec)

/-- 'printworkskeep3.ArchiveSharesPieces', WHERE WHAT IT READS IS OF BULK AT MOST 1048576: true; the input reads as it did. -/
def archiveSharesPiecesUptoRow : OpenClaim := { program := "ytpfkmjckjomeeaadoor", sum := "5ae6ea89bcf579c5ee9c6c832ffe29e3e7b4835a0d984c2b28ebb711cc1a6648", func := "printworks/printworkskeep3.ArchiveSharesPieces", spec := "archiveSharesPieces", inPlace := ["slices.overlaps[string]"], recurses := true, named := ["printworks/filter.steps"], apart := false, laid := [("printworks/filter.steps", laid_printworks_filter_steps)], narrowed := true }
def ArchiveSharesPiecesUptoSaid : Prop := archiveSharesPiecesUptoRow.holds Tryd.pinned (OpenSpec.upto archiveSharesPiecesSpec)

end Rows
end Go.Proofs.YtpfkmjckjomeeaaDoor
