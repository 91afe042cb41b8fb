/-
  NARROWER THAN 'FOR EVERY INPUT', by the rows' own cells (each row's printed sentence says how): ObjectPrintParseRoundTrip: loops, laid · ObjectParsePrintStable: laid · ObjectMergePrefersSecond: loops, laid · ObjectSetThenGet: loops, laid · ObjectSetLeavesOthers: loops, laid · ObjectDropUndoesSet: loops, laid.
  DERIVED. THE GIVEN ROWS OF THIS SEAT. 6 by the template 'for every input the law returns true; each argument reads behind the call as it read before'; 0 by the template 'total and deterministic' (their statements: YthbdhijkdldmoaaGreatDoorTotals.lean).
  GIVEN WITH THE SEED: the statements are not yours to turn. If you find one false, say at which input.
  Laid BY PROGRAM, IN A SANDBOX (cutbox-rows.mjs): the forced cells as the released guide's own fill.sh prints them over the translation 753e55b405310058… (all of the seat's roots in one cut). By AI agents, Wed Nov 11 2026. No macro, syntax, notation, axiom, sorry.
-/
import Derived.Test.YthbdhijkdldmoaaGreatDoorChecked
import GoSem.PinnedTables
import GoSem.Claim
import GoSem.ClaimJoined
import GoSem.ClaimMapViews
import Derived.JoinedTies
import Derived.KernelRfl
namespace Go.Proofs.YthbdhijkdldmoaaGreatDoor
/- THE CELL 'sum', in the pinned program and in every row, IS THE sha256 OF THE DUMP (.gsa) THAT YthbdhijkdldmoaaGreatDoorProg.lean LOADS. Nothing in Lean hashes anything: it is a label: what it is worth is what the hold of that sum in a sandbox is worth. -/
noncomputable def Tryz.pinned : Pinned := { name := "ythbdhijkdldmoaagreatdoor", sum := "753e55b40531005864f38956de35673acc89e74126c66de1a0900f268cfec6a7", checked := Tryz.checked }
namespace Rows
def none {H : Type} : Left H := { results := [], args := [] }

/- WHAT THE LISTED PACKAGE-LEVEL VARIABLES READ AS WHEN THE CALL BEGINS. Each datum BY PROGRAM (the guide's laid-datum.mjs) off the statement by which the dump's own 'gosem.cut.vars' lays the variable. In a bare row this is a premise. The card (YthbdhijkdldmoaaGreatDoorCards.lean) ties it to the program's text. -/
def laid_math_bits_deBruijn32tab {H : Type} : DataW H := .agg [.lit (.int .u8 0), .lit (.int .u8 1), .lit (.int .u8 28), .lit (.int .u8 2), .lit (.int .u8 29), .lit (.int .u8 14), .lit (.int .u8 24), .lit (.int .u8 3), .lit (.int .u8 30), .lit (.int .u8 22), .lit (.int .u8 20), .lit (.int .u8 15), .lit (.int .u8 25), .lit (.int .u8 17), .lit (.int .u8 4), .lit (.int .u8 8), .lit (.int .u8 31), .lit (.int .u8 27), .lit (.int .u8 13), .lit (.int .u8 23), .lit (.int .u8 21), .lit (.int .u8 19), .lit (.int .u8 16), .lit (.int .u8 7), .lit (.int .u8 26), .lit (.int .u8 12), .lit (.int .u8 18), .lit (.int .u8 6), .lit (.int .u8 11), .lit (.int .u8 5), .lit (.int .u8 10), .lit (.int .u8 9)]
def laid_math_bits_deBruijn64tab {H : Type} : DataW H := .agg [.lit (.int .u8 0), .lit (.int .u8 1), .lit (.int .u8 56), .lit (.int .u8 2), .lit (.int .u8 57), .lit (.int .u8 49), .lit (.int .u8 28), .lit (.int .u8 3), .lit (.int .u8 61), .lit (.int .u8 58), .lit (.int .u8 42), .lit (.int .u8 50), .lit (.int .u8 38), .lit (.int .u8 29), .lit (.int .u8 17), .lit (.int .u8 4), .lit (.int .u8 62), .lit (.int .u8 47), .lit (.int .u8 59), .lit (.int .u8 36), .lit (.int .u8 45), .lit (.int .u8 43), .lit (.int .u8 51), .lit (.int .u8 22), .lit (.int .u8 53), .lit (.int .u8 39), .lit (.int .u8 33), .lit (.int .u8 30), .lit (.int .u8 24), .lit (.int .u8 18), .lit (.int .u8 12), .lit (.int .u8 5), .lit (.int .u8 63), .lit (.int .u8 55), .lit (.int .u8 48), .lit (.int .u8 27), .lit (.int .u8 60), .lit (.int .u8 41), .lit (.int .u8 37), .lit (.int .u8 16), .lit (.int .u8 46), .lit (.int .u8 35), .lit (.int .u8 44), .lit (.int .u8 21), .lit (.int .u8 52), .lit (.int .u8 32), .lit (.int .u8 23), .lit (.int .u8 11), .lit (.int .u8 54), .lit (.int .u8 26), .lit (.int .u8 40), .lit (.int .u8 15), .lit (.int .u8 34), .lit (.int .u8 20), .lit (.int .u8 31), .lit (.int .u8 10), .lit (.int .u8 25), .lit (.int .u8 14), .lit (.int .u8 19), .lit (.int .u8 9), .lit (.int .u8 13), .lit (.int .u8 8), .lit (.int .u8 7), .lit (.int .u8 6)]
def laid_internal_strconv_uint64pow10 {H : Type} : DataW H := .agg [.lit (.int .u64 1), .lit (.int .u64 10), .lit (.int .u64 100), .lit (.int .u64 1000), .lit (.int .u64 10000), .lit (.int .u64 100000), .lit (.int .u64 1000000), .lit (.int .u64 10000000), .lit (.int .u64 100000000), .lit (.int .u64 1000000000), .lit (.int .u64 10000000000), .lit (.int .u64 100000000000), .lit (.int .u64 1000000000000), .lit (.int .u64 10000000000000), .lit (.int .u64 100000000000000), .lit (.int .u64 1000000000000000), .lit (.int .u64 10000000000000000), .lit (.int .u64 100000000000000000), .lit (.int .u64 1000000000000000000), .lit (.int .u64 10000000000000000000)]
def laid_unicode_utf8_acceptRanges {H : Type} : DataW H := .agg [.agg [.lit (.int .u8 128), .lit (.int .u8 191)], .agg [.lit (.int .u8 160), .lit (.int .u8 191)], .agg [.lit (.int .u8 128), .lit (.int .u8 159)], .agg [.lit (.int .u8 144), .lit (.int .u8 191)], .agg [.lit (.int .u8 128), .lit (.int .u8 143)], .agg [.lit (.int .u8 0), .lit (.int .u8 0)], .agg [.lit (.int .u8 0), .lit (.int .u8 0)], .agg [.lit (.int .u8 0), .lit (.int .u8 0)], .agg [.lit (.int .u8 0), .lit (.int .u8 0)], .agg [.lit (.int .u8 0), .lit (.int .u8 0)], .agg [.lit (.int .u8 0), .lit (.int .u8 0)], .agg [.lit (.int .u8 0), .lit (.int .u8 0)], .agg [.lit (.int .u8 0), .lit (.int .u8 0)], .agg [.lit (.int .u8 0), .lit (.int .u8 0)], .agg [.lit (.int .u8 0), .lit (.int .u8 0)], .agg [.lit (.int .u8 0), .lit (.int .u8 0)]]
def laid_strconv_ErrRange {H : Type} : DataW H := .iface "*errors.errorString" (.ptr (.agg [.lit (.string [118, 97, 108, 117, 101, 32, 111, 117, 116, 32, 111, 102, 32, 114, 97, 110, 103, 101])]))
def laid_strconv_ErrSyntax {H : Type} : DataW H := .iface "*errors.errorString" (.ptr (.agg [.lit (.string [105, 110, 118, 97, 108, 105, 100, 32, 115, 121, 110, 116, 97, 120])]))
/-- One of Go's own tables, pinned by name: the form's constant. -/
def laid_unicode_utf8_first : DataW Unit := Go.Pinned.utf8First

/-- 'printworkskeep3.ObjectPrintParseRoundTrip': WHATEVER THE INPUT: true; the input reads as it did. -/
def objectPrintParseRoundTripSpec : ChangeSpec := { name := "objectPrintParseRoundTrip", fn := fun _ => fun
  | [d] => { results := [.lit (.bool true)], args := [d] }
  | _ => none }
def objectPrintParseRoundTripRow : OpenClaim := { program := "ythbdhijkdldmoaagreatdoor", sum := "753e55b40531005864f38956de35673acc89e74126c66de1a0900f268cfec6a7", func := "printworks/printworkskeep3.ObjectPrintParseRoundTrip", spec := "objectPrintParseRoundTrip", inPlace := ["internal/bytealg.IndexByteString", "internal/abi.NoEscape", "slices.overlaps[string]", "slices.overlaps[printworks/api.Object]", "internal/bytealg.IndexString"], unfollowed := true, recurses := true, named := ["strconv.ErrSyntax", "strconv.ErrRange", "internal/strconv.uint64pow10", "math/bits.deBruijn32tab", "math/bits.deBruijn64tab", "unicode/utf8.first", "unicode/utf8.acceptRanges", "internal/bytealg.MaxLen"], loops := true, apart := false, laid := [("math/bits.deBruijn32tab", laid_math_bits_deBruijn32tab), ("math/bits.deBruijn64tab", laid_math_bits_deBruijn64tab), ("internal/strconv.uint64pow10", laid_internal_strconv_uint64pow10), ("unicode/utf8.acceptRanges", laid_unicode_utf8_acceptRanges), ("strconv.ErrRange", laid_strconv_ErrRange), ("strconv.ErrSyntax", laid_strconv_ErrSyntax), ("unicode/utf8.first", laid_unicode_utf8_first)] }
def ObjectPrintParseRoundTripSaid : Prop := objectPrintParseRoundTripRow.holds Tryz.pinned (OpenSpec.ofChange objectPrintParseRoundTripSpec)

/-- ITS FALSE NEIGHBOUR: 'it returns false'. Refute it at one input. -/
def objectPrintParseRoundTripWrong : ChangeSpec := { name := "objectPrintParseRoundTrip", fn := fun _ => fun
  | [d] => { results := [.lit (.bool false)], args := [d] }
  | _ => none }
def ObjectPrintParseRoundTripWrongFalsely : Prop := objectPrintParseRoundTripRow.holds Tryz.pinned (OpenSpec.ofChange objectPrintParseRoundTripWrong)

/-- 'printworkskeep3.ObjectParsePrintStable': WHATEVER THE INPUT: true; the input reads as it did. -/
def objectParsePrintStableSpec : ChangeSpec := { name := "objectParsePrintStable", fn := fun _ => fun
  | [d] => { results := [.lit (.bool true)], args := [d] }
  | _ => none }
def objectParsePrintStableRow : OpenClaim := { program := "ythbdhijkdldmoaagreatdoor", sum := "753e55b40531005864f38956de35673acc89e74126c66de1a0900f268cfec6a7", func := "printworks/printworkskeep3.ObjectParsePrintStable", spec := "objectParsePrintStable", inPlace := ["internal/bytealg.IndexByteString", "internal/abi.NoEscape", "slices.overlaps[string]", "slices.overlaps[printworks/api.Object]", "internal/bytealg.IndexString"], unfollowed := true, recurses := true, named := ["strconv.ErrSyntax", "strconv.ErrRange", "internal/strconv.uint64pow10", "math/bits.deBruijn32tab", "math/bits.deBruijn64tab", "unicode/utf8.first", "unicode/utf8.acceptRanges", "internal/bytealg.MaxLen"], apart := false, laid := [("math/bits.deBruijn32tab", laid_math_bits_deBruijn32tab), ("math/bits.deBruijn64tab", laid_math_bits_deBruijn64tab), ("internal/strconv.uint64pow10", laid_internal_strconv_uint64pow10), ("unicode/utf8.acceptRanges", laid_unicode_utf8_acceptRanges), ("strconv.ErrRange", laid_strconv_ErrRange), ("strconv.ErrSyntax", laid_strconv_ErrSyntax), ("unicode/utf8.first", laid_unicode_utf8_first)] }
def ObjectParsePrintStableSaid : Prop := objectParsePrintStableRow.holds Tryz.pinned (OpenSpec.ofChange objectParsePrintStableSpec)

/-- ITS FALSE NEIGHBOUR: 'it returns false'. Refute it at one input. -/
def objectParsePrintStableWrong : ChangeSpec := { name := "objectParsePrintStable", fn := fun _ => fun
  | [d] => { results := [.lit (.bool false)], args := [d] }
  | _ => none }
def ObjectParsePrintStableWrongFalsely : Prop := objectParsePrintStableRow.holds Tryz.pinned (OpenSpec.ofChange objectParsePrintStableWrong)

/-- 'printworkskeep3.ObjectMergePrefersSecond': WHATEVER THE INPUT: true; the input reads as it did. -/
def objectMergePrefersSecondSpec : ChangeSpec := { name := "objectMergePrefersSecond", fn := fun _ => fun
  | [d1, d2] => { results := [.lit (.bool true)], args := [d1, d2] }
  | _ => none }
def objectMergePrefersSecondRow : OpenClaim := { program := "ythbdhijkdldmoaagreatdoor", sum := "753e55b40531005864f38956de35673acc89e74126c66de1a0900f268cfec6a7", func := "printworks/printworkskeep3.ObjectMergePrefersSecond", spec := "objectMergePrefersSecond", inPlace := ["internal/bytealg.IndexByteString", "internal/abi.NoEscape", "slices.overlaps[string]", "slices.overlaps[printworks/api.Object]", "internal/bytealg.IndexString"], unfollowed := true, recurses := true, named := ["strconv.ErrSyntax", "strconv.ErrRange", "internal/strconv.uint64pow10", "math/bits.deBruijn32tab", "math/bits.deBruijn64tab", "unicode/utf8.first", "unicode/utf8.acceptRanges", "internal/bytealg.MaxLen"], loops := true, apart := false, laid := [("math/bits.deBruijn32tab", laid_math_bits_deBruijn32tab), ("math/bits.deBruijn64tab", laid_math_bits_deBruijn64tab), ("internal/strconv.uint64pow10", laid_internal_strconv_uint64pow10), ("unicode/utf8.acceptRanges", laid_unicode_utf8_acceptRanges), ("strconv.ErrRange", laid_strconv_ErrRange), ("strconv.ErrSyntax", laid_strconv_ErrSyntax), ("unicode/utf8.first", laid_unicode_utf8_first)] }
def ObjectMergePrefersSecondSaid : Prop := objectMergePrefersSecondRow.holds Tryz.pinned (OpenSpec.ofChange objectMergePrefersSecondSpec)

/-- ITS FALSE NEIGHBOUR: 'it returns false'. Refute it at one input. -/
def objectMergePrefersSecondWrong : ChangeSpec := { name := "objectMergePrefersSecond", fn := fun _ => fun
  | [d1, d2] => { results := [.lit (.bool false)], args := [d1, d2] }
  | _ => none }
def ObjectMergePrefersSecondWrongFalsely : Prop := objectMergePrefersSecondRow.holds Tryz.pinned (OpenSpec.ofChange objectMergePrefersSecondWrong)

/-- 'printworkskeep3.ObjectSetThenGet': WHATEVER THE INPUT: true; the input reads as it did. -/
def objectSetThenGetSpec : ChangeSpec := { name := "objectSetThenGet", fn := fun _ => fun
  | [d1, d2, d3, d4] => { results := [.lit (.bool true)], args := [d1, d2, d3, d4] }
  | _ => none }
def objectSetThenGetRow : OpenClaim := { program := "ythbdhijkdldmoaagreatdoor", sum := "753e55b40531005864f38956de35673acc89e74126c66de1a0900f268cfec6a7", func := "printworks/printworkskeep3.ObjectSetThenGet", spec := "objectSetThenGet", inPlace := ["internal/bytealg.IndexByteString", "internal/abi.NoEscape", "slices.overlaps[string]", "slices.overlaps[printworks/api.Object]", "internal/bytealg.IndexString"], unfollowed := true, recurses := true, named := ["strconv.ErrSyntax", "strconv.ErrRange", "internal/strconv.uint64pow10", "math/bits.deBruijn32tab", "math/bits.deBruijn64tab", "unicode/utf8.first", "unicode/utf8.acceptRanges", "internal/bytealg.MaxLen"], loops := true, apart := false, laid := [("math/bits.deBruijn32tab", laid_math_bits_deBruijn32tab), ("math/bits.deBruijn64tab", laid_math_bits_deBruijn64tab), ("internal/strconv.uint64pow10", laid_internal_strconv_uint64pow10), ("unicode/utf8.acceptRanges", laid_unicode_utf8_acceptRanges), ("strconv.ErrRange", laid_strconv_ErrRange), ("strconv.ErrSyntax", laid_strconv_ErrSyntax), ("unicode/utf8.first", laid_unicode_utf8_first)] }
def ObjectSetThenGetSaid : Prop := objectSetThenGetRow.holds Tryz.pinned (OpenSpec.ofChange objectSetThenGetSpec)

/-- ITS FALSE NEIGHBOUR: 'it returns false'. Refute it at one input. -/
def objectSetThenGetWrong : ChangeSpec := { name := "objectSetThenGet", fn := fun _ => fun
  | [d1, d2, d3, d4] => { results := [.lit (.bool false)], args := [d1, d2, d3, d4] }
  | _ => none }
def ObjectSetThenGetWrongFalsely : Prop := objectSetThenGetRow.holds Tryz.pinned (OpenSpec.ofChange objectSetThenGetWrong)

/-- 'printworkskeep3.ObjectSetLeavesOthers': WHATEVER THE INPUT: true; the input reads as it did. -/
def objectSetLeavesOthersSpec : ChangeSpec := { name := "objectSetLeavesOthers", fn := fun _ => fun
  | [d1, d2, d3] => { results := [.lit (.bool true)], args := [d1, d2, d3] }
  | _ => none }
def objectSetLeavesOthersRow : OpenClaim := { program := "ythbdhijkdldmoaagreatdoor", sum := "753e55b40531005864f38956de35673acc89e74126c66de1a0900f268cfec6a7", func := "printworks/printworkskeep3.ObjectSetLeavesOthers", spec := "objectSetLeavesOthers", inPlace := ["internal/bytealg.IndexByteString", "internal/abi.NoEscape", "slices.overlaps[string]", "slices.overlaps[printworks/api.Object]", "internal/bytealg.IndexString"], unfollowed := true, recurses := true, named := ["strconv.ErrSyntax", "strconv.ErrRange", "internal/strconv.uint64pow10", "math/bits.deBruijn32tab", "math/bits.deBruijn64tab", "unicode/utf8.first", "unicode/utf8.acceptRanges", "internal/bytealg.MaxLen"], loops := true, apart := false, laid := [("math/bits.deBruijn32tab", laid_math_bits_deBruijn32tab), ("math/bits.deBruijn64tab", laid_math_bits_deBruijn64tab), ("internal/strconv.uint64pow10", laid_internal_strconv_uint64pow10), ("unicode/utf8.acceptRanges", laid_unicode_utf8_acceptRanges), ("strconv.ErrRange", laid_strconv_ErrRange), ("strconv.ErrSyntax", laid_strconv_ErrSyntax), ("unicode/utf8.first", laid_unicode_utf8_first)] }
def ObjectSetLeavesOthersSaid : Prop := objectSetLeavesOthersRow.holds Tryz.pinned (OpenSpec.ofChange objectSetLeavesOthersSpec)

/-- ITS FALSE NEIGHBOUR: 'it returns false'. Refute it at one input. -/
def objectSetLeavesOthersWrong : ChangeSpec := { name := "objectSetLeavesOthers", fn := fun _ => fun
  | [d1, d2, d3] => { results := [.lit (.bool false)], args := [d1, d2, d3] }
  | _ => none }
def ObjectSetLeavesOthersWrongFalsely : Prop := objectSetLeavesOthersRow.holds Tryz.pinned (OpenSpec.ofChange objectSetLeavesOthersWrong)

/-- 'printworkskeep3.ObjectDropUndoesSet': WHATEVER THE INPUT: true; the input reads as it did. -/
def objectDropUndoesSetSpec : ChangeSpec := { name := "objectDropUndoesSet", fn := fun _ => fun
  | [d1, d2, d3] => { results := [.lit (.bool true)], args := [d1, d2, d3] }
  | _ => none }
def objectDropUndoesSetRow : OpenClaim := { program := "ythbdhijkdldmoaagreatdoor", sum := "753e55b40531005864f38956de35673acc89e74126c66de1a0900f268cfec6a7", func := "printworks/printworkskeep3.ObjectDropUndoesSet", spec := "objectDropUndoesSet", inPlace := ["internal/bytealg.IndexByteString", "internal/abi.NoEscape", "slices.overlaps[string]", "slices.overlaps[printworks/api.Object]", "internal/bytealg.IndexString"], unfollowed := true, recurses := true, named := ["strconv.ErrSyntax", "strconv.ErrRange", "internal/strconv.uint64pow10", "math/bits.deBruijn32tab", "math/bits.deBruijn64tab", "unicode/utf8.first", "unicode/utf8.acceptRanges", "internal/bytealg.MaxLen"], loops := true, apart := false, laid := [("math/bits.deBruijn32tab", laid_math_bits_deBruijn32tab), ("math/bits.deBruijn64tab", laid_math_bits_deBruijn64tab), ("internal/strconv.uint64pow10", laid_internal_strconv_uint64pow10), ("unicode/utf8.acceptRanges", laid_unicode_utf8_acceptRanges), ("strconv.ErrRange", laid_strconv_ErrRange), ("strconv.ErrSyntax", laid_strconv_ErrSyntax), ("unicode/utf8.first", laid_unicode_utf8_first)] }
def ObjectDropUndoesSetSaid : Prop := objectDropUndoesSetRow.holds Tryz.pinned (OpenSpec.ofChange objectDropUndoesSetSpec)

/-- ITS FALSE NEIGHBOUR: 'it returns false'. Refute it at one input. -/
def objectDropUndoesSetWrong : ChangeSpec := { name := "objectDropUndoesSet", fn := fun _ => fun
  | [d1, d2, d3] => { results := [.lit (.bool false)], args := [d1, d2, d3] }
  | _ => none }
def ObjectDropUndoesSetWrongFalsely : Prop := objectDropUndoesSetRow.holds Tryz.pinned (OpenSpec.ofChange objectDropUndoesSetWrong)

/- THE SECOND FORM. 'bulk': how many values and letters a reading holds, each counted each time it is reached (what is shared counts as often as it is met; a slice's spare places count too). A statement '..UptoSaid' is the law's where the arguments, and the package variables that the reading takes, are together of bulk at most 1048576: NARROWER than '..Said'. Prove '..Said' where nothing that the law and all that it calls make is longer than what came in: it says more and counts as full. Else prove '..UptoSaid'. A law counts once. -/
mutual
def uptoBulk {H : Type} : DataW H → Nat
  | .lit (.string bytes) => bytes.length + 1
  | .lit _ => 1
  | .nil => 1
  | .ptr d => uptoBulk d + 1
  | .slice elems spare => uptoBulkAll elems + uptoBulkAll spare + 1
  | .agg parts => uptoBulkAll parts + 1
  | .iface _ d => uptoBulk d + 1
  | .map entries => uptoBulkEntries entries + 1
  | .held _ => 1
def uptoBulkAll {H : Type} : List (DataW H) → Nat
  | [] => 0
  | d :: r => uptoBulk d + uptoBulkAll r
def uptoBulkEntries {H : Type} : List (Lit × DataW H) → Nat
  | [] => 0
  | x :: r => uptoBulkEntry x + uptoBulkEntries r
def uptoBulkEntry {H : Type} : Lit × DataW H → Nat
  | (.string bytes, d) => bytes.length + uptoBulk d + 1
  | (_, d) => uptoBulk d + 1
 end
def uptoSmall : (H : Type) → List (DataW H) → Bool := fun _ ds => decide (uptoBulkAll ds ≤ 1048576)
def OpenSpec.upto (s : _root_.Go.ChangeSpec) : _root_.Go.OpenSpec := { _root_.Go.OpenSpec.ofChange s with cond := some uptoSmall }

/-- 'printworkskeep3.ObjectPrintParseRoundTrip', WHERE WHAT IT READS IS OF BULK AT MOST 1048576: true; the input reads as it did. -/
def objectPrintParseRoundTripUptoRow : OpenClaim := { program := "ythbdhijkdldmoaagreatdoor", sum := "753e55b40531005864f38956de35673acc89e74126c66de1a0900f268cfec6a7", func := "printworks/printworkskeep3.ObjectPrintParseRoundTrip", spec := "objectPrintParseRoundTrip", inPlace := ["internal/bytealg.IndexByteString", "internal/abi.NoEscape", "slices.overlaps[string]", "slices.overlaps[printworks/api.Object]", "internal/bytealg.IndexString"], unfollowed := true, recurses := true, named := ["strconv.ErrSyntax", "strconv.ErrRange", "internal/strconv.uint64pow10", "math/bits.deBruijn32tab", "math/bits.deBruijn64tab", "unicode/utf8.first", "unicode/utf8.acceptRanges", "internal/bytealg.MaxLen"], loops := true, apart := false, laid := [("math/bits.deBruijn32tab", laid_math_bits_deBruijn32tab), ("math/bits.deBruijn64tab", laid_math_bits_deBruijn64tab), ("internal/strconv.uint64pow10", laid_internal_strconv_uint64pow10), ("unicode/utf8.acceptRanges", laid_unicode_utf8_acceptRanges), ("strconv.ErrRange", laid_strconv_ErrRange), ("strconv.ErrSyntax", laid_strconv_ErrSyntax), ("unicode/utf8.first", laid_unicode_utf8_first)], narrowed := true }
def ObjectPrintParseRoundTripUptoSaid : Prop := objectPrintParseRoundTripUptoRow.holds Tryz.pinned (OpenSpec.upto objectPrintParseRoundTripSpec)

/-- 'printworkskeep3.ObjectParsePrintStable', WHERE WHAT IT READS IS OF BULK AT MOST 1048576: true; the input reads as it did. -/
def objectParsePrintStableUptoRow : OpenClaim := { program := "ythbdhijkdldmoaagreatdoor", sum := "753e55b40531005864f38956de35673acc89e74126c66de1a0900f268cfec6a7", func := "printworks/printworkskeep3.ObjectParsePrintStable", spec := "objectParsePrintStable", inPlace := ["internal/bytealg.IndexByteString", "internal/abi.NoEscape", "slices.overlaps[string]", "slices.overlaps[printworks/api.Object]", "internal/bytealg.IndexString"], unfollowed := true, recurses := true, named := ["strconv.ErrSyntax", "strconv.ErrRange", "internal/strconv.uint64pow10", "math/bits.deBruijn32tab", "math/bits.deBruijn64tab", "unicode/utf8.first", "unicode/utf8.acceptRanges", "internal/bytealg.MaxLen"], apart := false, laid := [("math/bits.deBruijn32tab", laid_math_bits_deBruijn32tab), ("math/bits.deBruijn64tab", laid_math_bits_deBruijn64tab), ("internal/strconv.uint64pow10", laid_internal_strconv_uint64pow10), ("unicode/utf8.acceptRanges", laid_unicode_utf8_acceptRanges), ("strconv.ErrRange", laid_strconv_ErrRange), ("strconv.ErrSyntax", laid_strconv_ErrSyntax), ("unicode/utf8.first", laid_unicode_utf8_first)], narrowed := true }
def ObjectParsePrintStableUptoSaid : Prop := objectParsePrintStableUptoRow.holds Tryz.pinned (OpenSpec.upto objectParsePrintStableSpec)

/-- 'printworkskeep3.ObjectMergePrefersSecond', WHERE WHAT IT READS IS OF BULK AT MOST 1048576: true; the input reads as it did. -/
def objectMergePrefersSecondUptoRow : OpenClaim := { program := "ythbdhijkdldmoaagreatdoor", sum := "753e55b40531005864f38956de35673acc89e74126c66de1a0900f268cfec6a7", func := "printworks/printworkskeep3.ObjectMergePrefersSecond", spec := "objectMergePrefersSecond", inPlace := ["internal/bytealg.IndexByteString", "internal/abi.NoEscape", "slices.overlaps[string]", "slices.overlaps[printworks/api.Object]", "internal/bytealg.IndexString"], unfollowed := true, recurses := true, named := ["strconv.ErrSyntax", "strconv.ErrRange", "internal/strconv.uint64pow10", "math/bits.deBruijn32tab", "math/bits.deBruijn64tab", "unicode/utf8.first", "unicode/utf8.acceptRanges", "internal/bytealg.MaxLen"], loops := true, apart := false, laid := [("math/bits.deBruijn32tab", laid_math_bits_deBruijn32tab), ("math/bits.deBruijn64tab", laid_math_bits_deBruijn64tab), ("internal/strconv.uint64pow10", laid_internal_strconv_uint64pow10), ("unicode/utf8.acceptRanges", laid_unicode_utf8_acceptRanges), ("strconv.ErrRange", laid_strconv_ErrRange), ("strconv.ErrSyntax", laid_strconv_ErrSyntax), ("unicode/utf8.first", laid_unicode_utf8_first)], narrowed := true }
def ObjectMergePrefersSecondUptoSaid : Prop := objectMergePrefersSecondUptoRow.holds Tryz.pinned (OpenSpec.upto objectMergePrefersSecondSpec)

/-- 'printworkskeep3.ObjectSetThenGet', WHERE WHAT IT READS IS OF BULK AT MOST 1048576: true; the input reads as it did. -/
def objectSetThenGetUptoRow : OpenClaim := { program := "ythbdhijkdldmoaagreatdoor", sum := "753e55b40531005864f38956de35673acc89e74126c66de1a0900f268cfec6a7", func := "printworks/printworkskeep3.ObjectSetThenGet", spec := "objectSetThenGet", inPlace := ["internal/bytealg.IndexByteString", "internal/abi.NoEscape", "slices.overlaps[string]", "slices.overlaps[printworks/api.Object]", "internal/bytealg.IndexString"], unfollowed := true, recurses := true, named := ["strconv.ErrSyntax", "strconv.ErrRange", "internal/strconv.uint64pow10", "math/bits.deBruijn32tab", "math/bits.deBruijn64tab", "unicode/utf8.first", "unicode/utf8.acceptRanges", "internal/bytealg.MaxLen"], loops := true, apart := false, laid := [("math/bits.deBruijn32tab", laid_math_bits_deBruijn32tab), ("math/bits.deBruijn64tab", laid_math_bits_deBruijn64tab), ("internal/strconv.uint64pow10", laid_internal_strconv_uint64pow10), ("unicode/utf8.acceptRanges", laid_unicode_utf8_acceptRanges), ("strconv.ErrRange", laid_strconv_ErrRange), ("strconv.ErrSyntax", laid_strconv_ErrSyntax), ("unicode/utf8.first", laid_unicode_utf8_first)], narrowed := true }
def ObjectSetThenGetUptoSaid : Prop := objectSetThenGetUptoRow.holds Tryz.pinned (OpenSpec.upto objectSetThenGetSpec)

/-- 'printworkskeep3.ObjectSetLeavesOthers', WHERE WHAT IT READS IS OF BULK AT MOST 1048576: true; the input reads as it did. -/
def objectSetLeavesOthersUptoRow : OpenClaim := { program := "ythbdhijkdldmoaagreatdoor", sum := "753e55b40531005864f38956de35673acc89e74126c66de1a0900f268cfec6a7", func := "printworks/printworkskeep3.ObjectSetLeavesOthers", spec := "objectSetLeavesOthers", inPlace := ["internal/bytealg.IndexByteString", "internal/abi.NoEscape", "slices.overlaps[string]", "slices.overlaps[printworks/api.Object]", "internal/bytealg.IndexString"], unfollowed := true, recurses := true, named := ["strconv.ErrSyntax", "strconv.ErrRange", "internal/strconv.uint64pow10", "math/bits.deBruijn32tab", "math/bits.deBruijn64tab", "unicode/utf8.first", "unicode/utf8.acceptRanges", "internal/bytealg.MaxLen"], loops := true, apart := false, laid := [("math/bits.deBruijn32tab", laid_math_bits_deBruijn32tab), ("math/bits.deBruijn64tab", laid_math_bits_deBruijn64tab), ("internal/strconv.uint64pow10", laid_internal_strconv_uint64pow10), ("unicode/utf8.acceptRanges", laid_unicode_utf8_acceptRanges), ("strconv.ErrRange", laid_strconv_ErrRange), ("strconv.ErrSyntax", laid_strconv_ErrSyntax), ("unicode/utf8.first", laid_unicode_utf8_first)], narrowed := true }
def ObjectSetLeavesOthersUptoSaid : Prop := objectSetLeavesOthersUptoRow.holds Tryz.pinned (OpenSpec.upto objectSetLeavesOthersSpec)

/-- 'printworkskeep3.ObjectDropUndoesSet', WHERE WHAT IT READS IS OF BULK AT MOST 1048576: true; the input reads as it did. -/
def objectDropUndoesSetUptoRow : OpenClaim := { program := "ythbdhijkdldmoaagreatdoor", sum := "753e55b40531005864f38956de35673acc89e74126c66de1a0900f268cfec6a7", func := "printworks/printworkskeep3.ObjectDropUndoesSet", spec := "objectDropUndoesSet", inPlace := ["internal/bytealg.IndexByteString", "internal/abi.NoEscape", "slices.overlaps[string]", "slices.overlaps[printworks/api.Object]", "internal/bytealg.IndexString"], unfollowed := true, recurses := true, named := ["strconv.ErrSyntax", "strconv.ErrRange", "internal/strconv.uint64pow10", "math/bits.deBruijn32tab", "math/bits.deBruijn64tab", "unicode/utf8.first", "unicode/utf8.acceptRanges", "internal/bytealg.MaxLen"], loops := true, apart := false, laid := [("math/bits.deBruijn32tab", laid_math_bits_deBruijn32tab), ("math/bits.deBruijn64tab", laid_math_bits_deBruijn64tab), ("internal/strconv.uint64pow10", laid_internal_strconv_uint64pow10), ("unicode/utf8.acceptRanges", laid_unicode_utf8_acceptRanges), ("strconv.ErrRange", laid_strconv_ErrRange), ("strconv.ErrSyntax", laid_strconv_ErrSyntax), ("unicode/utf8.first", laid_unicode_utf8_first)], narrowed := true }
def ObjectDropUndoesSetUptoSaid : Prop := objectDropUndoesSetUptoRow.holds Tryz.pinned (OpenSpec.upto objectDropUndoesSetSpec)

end Rows
end Go.Proofs.YthbdhijkdldmoaaGreatDoor
