/-
  No cell of these rows narrows 'for every input' (looked for: loops, veiled, ifaces, maps, wideKeys, modest, calm, conditions, laid).
  DERIVED. THE GIVEN ROWS OF THIS SEAT. 4 by the template 'for every input the law returns true; each argument reads behind the call as it read before'; 0 by the template 'total and deterministic' (their statements: YtcnoehaemankiaaTotals.lean).
  GIVEN WITH THE SEED: the statements are not yours to turn. If you find one false, say at which input.
  Laid BY PROGRAM, IN A SANDBOX (cutbox-rows.mjs): the forced cells as the released guide's own fill.sh prints them over the translation 1d13446f78fea332… (all of the seat's roots in one cut). By AI agents, Wed Nov 11 2026. No macro, syntax, notation, axiom, sorry.
-/
import Derived.Test.YtcnoehaemankiaaChecked
import GoSem.Claim
import GoSem.ClaimJoined
import GoSem.ClaimMapViews
import Derived.JoinedTies
import Derived.KernelRfl
namespace Go.Proofs.Ytcnoehaemankiaa
/- THE CELL 'sum', in the pinned program and in every row, IS THE sha256 OF THE DUMP (.gsa) THAT YtcnoehaemankiaaProg.lean LOADS. Nothing in Lean hashes anything: it is a label: what it is worth is what the hold of that sum in a sandbox is worth. -/
noncomputable def Try.pinned : Pinned := { name := "ytcnoehaemankiaa", sum := "1d13446f78fea33214e16ac4874782f4c5bf24810375136f111f52c63378707f", checked := Try.checked }
namespace Rows
def none {H : Type} : Left H := { results := [], args := [] }

/-- 'printworkskeep3.BindMarksStaircase': WHATEVER THE INPUT: true; the input reads as it did. -/
def bindMarksStaircaseSpec : ChangeSpec := { name := "bindMarksStaircase", fn := fun _ => fun
  | [d1, d2] => { results := [.lit (.bool true)], args := [d1, d2] }
  | _ => none }
def bindMarksStaircaseRow : OpenClaim := { program := "ytcnoehaemankiaa", sum := "1d13446f78fea33214e16ac4874782f4c5bf24810375136f111f52c63378707f", func := "printworks/printworkskeep3.BindMarksStaircase", spec := "bindMarksStaircase", apart := false }
def BindMarksStaircaseSaid : Prop := bindMarksStaircaseRow.holds Try.pinned (OpenSpec.ofChange bindMarksStaircaseSpec)

/-- ITS FALSE NEIGHBOUR: 'it returns false'. Refute it at one input. -/
def bindMarksStaircaseWrong : ChangeSpec := { name := "bindMarksStaircase", fn := fun _ => fun
  | [d1, d2] => { results := [.lit (.bool false)], args := [d1, d2] }
  | _ => none }
def BindMarksStaircaseWrongFalsely : Prop := bindMarksStaircaseRow.holds Try.pinned (OpenSpec.ofChange bindMarksStaircaseWrong)

/-- 'printworkskeep3.BindSectionsRead': WHATEVER THE INPUT: true; the input reads as it did. -/
def bindSectionsReadSpec : ChangeSpec := { name := "bindSectionsRead", fn := fun _ => fun
  | [d1, d2, d3] => { results := [.lit (.bool true)], args := [d1, d2, d3] }
  | _ => none }
def bindSectionsReadRow : OpenClaim := { program := "ytcnoehaemankiaa", sum := "1d13446f78fea33214e16ac4874782f4c5bf24810375136f111f52c63378707f", func := "printworks/printworkskeep3.BindSectionsRead", spec := "bindSectionsRead", unfollowed := true, recurses := true, apart := false }
def BindSectionsReadSaid : Prop := bindSectionsReadRow.holds Try.pinned (OpenSpec.ofChange bindSectionsReadSpec)

/-- ITS FALSE NEIGHBOUR: 'it returns false'. Refute it at one input. -/
def bindSectionsReadWrong : ChangeSpec := { name := "bindSectionsRead", fn := fun _ => fun
  | [d1, d2, d3] => { results := [.lit (.bool false)], args := [d1, d2, d3] }
  | _ => none }
def BindSectionsReadWrongFalsely : Prop := bindSectionsReadRow.holds Try.pinned (OpenSpec.ofChange bindSectionsReadWrong)

/-- 'printworkskeep3.BindWrongOrderSeen': WHATEVER THE INPUT: true; the input reads as it did. -/
def bindWrongOrderSeenSpec : ChangeSpec := { name := "bindWrongOrderSeen", fn := fun _ => fun
  | [d1, d2, d3] => { results := [.lit (.bool true)], args := [d1, d2, d3] }
  | _ => none }
def bindWrongOrderSeenRow : OpenClaim := { program := "ytcnoehaemankiaa", sum := "1d13446f78fea33214e16ac4874782f4c5bf24810375136f111f52c63378707f", func := "printworks/printworkskeep3.BindWrongOrderSeen", spec := "bindWrongOrderSeen", unfollowed := true, recurses := true, apart := false }
def BindWrongOrderSeenSaid : Prop := bindWrongOrderSeenRow.holds Try.pinned (OpenSpec.ofChange bindWrongOrderSeenSpec)

/-- ITS FALSE NEIGHBOUR: 'it returns false'. Refute it at one input. -/
def bindWrongOrderSeenWrong : ChangeSpec := { name := "bindWrongOrderSeen", fn := fun _ => fun
  | [d1, d2, d3] => { results := [.lit (.bool false)], args := [d1, d2, d3] }
  | _ => none }
def BindWrongOrderSeenWrongFalsely : Prop := bindWrongOrderSeenRow.holds Try.pinned (OpenSpec.ofChange bindWrongOrderSeenWrong)

/-- 'printworkskeep3.BindFaultsRepair': WHATEVER THE INPUT: true; the input reads as it did. -/
def bindFaultsRepairSpec : ChangeSpec := { name := "bindFaultsRepair", fn := fun _ => fun
  | [d1, d2] => { results := [.lit (.bool true)], args := [d1, d2] }
  | _ => none }
def bindFaultsRepairRow : OpenClaim := { program := "ytcnoehaemankiaa", sum := "1d13446f78fea33214e16ac4874782f4c5bf24810375136f111f52c63378707f", func := "printworks/printworkskeep3.BindFaultsRepair", spec := "bindFaultsRepair", unfollowed := true, recurses := true, apart := false }
def BindFaultsRepairSaid : Prop := bindFaultsRepairRow.holds Try.pinned (OpenSpec.ofChange bindFaultsRepairSpec)

/-- ITS FALSE NEIGHBOUR: 'it returns false'. Refute it at one input. -/
def bindFaultsRepairWrong : ChangeSpec := { name := "bindFaultsRepair", fn := fun _ => fun
  | [d1, d2] => { results := [.lit (.bool false)], args := [d1, d2] }
  | _ => none }
def BindFaultsRepairWrongFalsely : Prop := bindFaultsRepairRow.holds Try.pinned (OpenSpec.ofChange bindFaultsRepairWrong)

/- THE SECOND FORM. 'bulk': how many values and letters a reading holds, each counted each time it is reached (what is shared counts as often as it is met; a slice's spare places count too). A statement '..UptoSaid' is the law's where the arguments, and the package variables that the reading takes, are together of bulk at most 1048576: NARROWER than '..Said'. Prove '..Said' where nothing that the law and all that it calls make is longer than what came in: it says more and counts as full. Else prove '..UptoSaid'. A law counts once. -/
mutual
def uptoBulk {H : Type} : DataW H → Nat
  | .lit (.string bytes) => bytes.length + 1
  | .lit _ => 1
  | .nil => 1
  | .ptr d => uptoBulk d + 1
  | .slice elems spare => uptoBulkAll elems + uptoBulkAll spare + 1
  | .agg parts => uptoBulkAll parts + 1
  | .iface _ d => uptoBulk d + 1
  | .map entries => uptoBulkEntries entries + 1
  | .held _ => 1
def uptoBulkAll {H : Type} : List (DataW H) → Nat
  | [] => 0
  | d :: r => uptoBulk d + uptoBulkAll r
def uptoBulkEntries {H : Type} : List (Lit × DataW H) → Nat
  | [] => 0
  | x :: r => uptoBulkEntry x + uptoBulkEntries r
def uptoBulkEntry {H : Type} : Lit × DataW H → Nat
  | (.string bytes, d) => bytes.length + uptoBulk d + 1
  | (_, d) => uptoBulk d + 1
 end
def uptoSmall : (H : Type) → List (DataW H) → Bool := fun _ ds => decide (uptoBulkAll ds ≤ 1048576)
def OpenSpec.upto (s : _root_.Go.ChangeSpec) : _root_.Go.OpenSpec := { _root_.Go.OpenSpec.ofChange s with cond := some uptoSmall }

/-- 'printworkskeep3.BindMarksStaircase', WHERE WHAT IT READS IS OF BULK AT MOST 1048576: true; the input reads as it did. -/
def bindMarksStaircaseUptoRow : OpenClaim := { program := "ytcnoehaemankiaa", sum := "1d13446f78fea33214e16ac4874782f4c5bf24810375136f111f52c63378707f", func := "printworks/printworkskeep3.BindMarksStaircase", spec := "bindMarksStaircase", apart := false, narrowed := true }
def BindMarksStaircaseUptoSaid : Prop := bindMarksStaircaseUptoRow.holds Try.pinned (OpenSpec.upto bindMarksStaircaseSpec)

/-- 'printworkskeep3.BindSectionsRead', WHERE WHAT IT READS IS OF BULK AT MOST 1048576: true; the input reads as it did. -/
def bindSectionsReadUptoRow : OpenClaim := { program := "ytcnoehaemankiaa", sum := "1d13446f78fea33214e16ac4874782f4c5bf24810375136f111f52c63378707f", func := "printworks/printworkskeep3.BindSectionsRead", spec := "bindSectionsRead", unfollowed := true, recurses := true, apart := false, narrowed := true }
def BindSectionsReadUptoSaid : Prop := bindSectionsReadUptoRow.holds Try.pinned (OpenSpec.upto bindSectionsReadSpec)

/-- 'printworkskeep3.BindWrongOrderSeen', WHERE WHAT IT READS IS OF BULK AT MOST 1048576: true; the input reads as it did. -/
def bindWrongOrderSeenUptoRow : OpenClaim := { program := "ytcnoehaemankiaa", sum := "1d13446f78fea33214e16ac4874782f4c5bf24810375136f111f52c63378707f", func := "printworks/printworkskeep3.BindWrongOrderSeen", spec := "bindWrongOrderSeen", unfollowed := true, recurses := true, apart := false, narrowed := true }
def BindWrongOrderSeenUptoSaid : Prop := bindWrongOrderSeenUptoRow.holds Try.pinned (OpenSpec.upto bindWrongOrderSeenSpec)

/-- 'printworkskeep3.BindFaultsRepair', WHERE WHAT IT READS IS OF BULK AT MOST 1048576: true; the input reads as it did. -/
def bindFaultsRepairUptoRow : OpenClaim := { program := "ytcnoehaemankiaa", sum := "1d13446f78fea33214e16ac4874782f4c5bf24810375136f111f52c63378707f", func := "printworks/printworkskeep3.BindFaultsRepair", spec := "bindFaultsRepair", unfollowed := true, recurses := true, apart := false, narrowed := true }
def BindFaultsRepairUptoSaid : Prop := bindFaultsRepairUptoRow.holds Try.pinned (OpenSpec.upto bindFaultsRepairSpec)

end Rows
end Go.Proofs.Ytcnoehaemankiaa
