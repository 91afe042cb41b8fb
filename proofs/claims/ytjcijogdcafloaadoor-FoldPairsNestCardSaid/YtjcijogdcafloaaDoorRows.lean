/-
  NARROWER THAN 'FOR EVERY INPUT', by the rows' own cells (each row's printed sentence says how): FoldLeavesBackToBack: laid · FoldEveryPlaceOnce: laid · FoldLeavesRemain: laid · FoldTurnedOver: laid · FoldPairsNest: laid · FoldTextRoundTrip: laid.
  DERIVED. THE GIVEN ROWS OF THIS SEAT. 6 by the template 'for every input the law returns true; each argument reads behind the call as it read before'; 0 by the template 'total and deterministic' (their statements: YtjcijogdcafloaaDoorTotals.lean).
  GIVEN WITH THE SEED: the statements are not yours to turn. If you find one false, say at which input.
  Laid BY PROGRAM, IN A SANDBOX (cutbox-rows.mjs): the forced cells as the released guide's own fill.sh prints them over the translation 409bc3546f6a9c23… (all of the seat's roots in one cut). By AI agents, Wed Nov 11 2026. No macro, syntax, notation, axiom, sorry.
-/
import Derived.Test.YtjcijogdcafloaaDoorChecked
import GoSem.PinnedTables
import GoSem.Claim
import GoSem.ClaimJoined
import GoSem.ClaimMapViews
import Derived.JoinedTies
import Derived.KernelRfl
namespace Go.Proofs.YtjcijogdcafloaaDoor
/- THE CELL 'sum', in the pinned program and in every row, IS THE sha256 OF THE DUMP (.gsa) THAT YtjcijogdcafloaaDoorProg.lean LOADS. Nothing in Lean hashes anything: it is a label: what it is worth is what the hold of that sum in a sandbox is worth. -/
noncomputable def Tryd.pinned : Pinned := { name := "ytjcijogdcafloaadoor", sum := "409bc3546f6a9c23a005d4e7300661b1eff9a0840bc183b7b9cd6eafb451a7dd", checked := Tryd.checked }
namespace Rows
def none {H : Type} : Left H := { results := [], args := [] }

/- WHAT THE LISTED PACKAGE-LEVEL VARIABLES READ AS WHEN THE CALL BEGINS. Each datum BY PROGRAM (the guide's laid-datum.mjs) off the statement by which the dump's own 'gosem.cut.vars' lays the variable. In a bare row this is a premise. The card (YtjcijogdcafloaaDoorCards.lean) ties it to the program's text. -/
def laid_math_bits_deBruijn32tab {H : Type} : DataW H := .agg [.lit (.int .u8 0), .lit (.int .u8 1), .lit (.int .u8 28), .lit (.int .u8 2), .lit (.int .u8 29), .lit (.int .u8 14), .lit (.int .u8 24), .lit (.int .u8 3), .lit (.int .u8 30), .lit (.int .u8 22), .lit (.int .u8 20), .lit (.int .u8 15), .lit (.int .u8 25), .lit (.int .u8 17), .lit (.int .u8 4), .lit (.int .u8 8), .lit (.int .u8 31), .lit (.int .u8 27), .lit (.int .u8 13), .lit (.int .u8 23), .lit (.int .u8 21), .lit (.int .u8 19), .lit (.int .u8 16), .lit (.int .u8 7), .lit (.int .u8 26), .lit (.int .u8 12), .lit (.int .u8 18), .lit (.int .u8 6), .lit (.int .u8 11), .lit (.int .u8 5), .lit (.int .u8 10), .lit (.int .u8 9)]
def laid_math_bits_deBruijn64tab {H : Type} : DataW H := .agg [.lit (.int .u8 0), .lit (.int .u8 1), .lit (.int .u8 56), .lit (.int .u8 2), .lit (.int .u8 57), .lit (.int .u8 49), .lit (.int .u8 28), .lit (.int .u8 3), .lit (.int .u8 61), .lit (.int .u8 58), .lit (.int .u8 42), .lit (.int .u8 50), .lit (.int .u8 38), .lit (.int .u8 29), .lit (.int .u8 17), .lit (.int .u8 4), .lit (.int .u8 62), .lit (.int .u8 47), .lit (.int .u8 59), .lit (.int .u8 36), .lit (.int .u8 45), .lit (.int .u8 43), .lit (.int .u8 51), .lit (.int .u8 22), .lit (.int .u8 53), .lit (.int .u8 39), .lit (.int .u8 33), .lit (.int .u8 30), .lit (.int .u8 24), .lit (.int .u8 18), .lit (.int .u8 12), .lit (.int .u8 5), .lit (.int .u8 63), .lit (.int .u8 55), .lit (.int .u8 48), .lit (.int .u8 27), .lit (.int .u8 60), .lit (.int .u8 41), .lit (.int .u8 37), .lit (.int .u8 16), .lit (.int .u8 46), .lit (.int .u8 35), .lit (.int .u8 44), .lit (.int .u8 21), .lit (.int .u8 52), .lit (.int .u8 32), .lit (.int .u8 23), .lit (.int .u8 11), .lit (.int .u8 54), .lit (.int .u8 26), .lit (.int .u8 40), .lit (.int .u8 15), .lit (.int .u8 34), .lit (.int .u8 20), .lit (.int .u8 31), .lit (.int .u8 10), .lit (.int .u8 25), .lit (.int .u8 14), .lit (.int .u8 19), .lit (.int .u8 9), .lit (.int .u8 13), .lit (.int .u8 8), .lit (.int .u8 7), .lit (.int .u8 6)]
def laid_internal_strconv_uint64pow10 {H : Type} : DataW H := .agg [.lit (.int .u64 1), .lit (.int .u64 10), .lit (.int .u64 100), .lit (.int .u64 1000), .lit (.int .u64 10000), .lit (.int .u64 100000), .lit (.int .u64 1000000), .lit (.int .u64 10000000), .lit (.int .u64 100000000), .lit (.int .u64 1000000000), .lit (.int .u64 10000000000), .lit (.int .u64 100000000000), .lit (.int .u64 1000000000000), .lit (.int .u64 10000000000000), .lit (.int .u64 100000000000000), .lit (.int .u64 1000000000000000), .lit (.int .u64 10000000000000000), .lit (.int .u64 100000000000000000), .lit (.int .u64 1000000000000000000), .lit (.int .u64 10000000000000000000)]
def laid_unicode_utf8_acceptRanges {H : Type} : DataW H := .agg [.agg [.lit (.int .u8 128), .lit (.int .u8 191)], .agg [.lit (.int .u8 160), .lit (.int .u8 191)], .agg [.lit (.int .u8 128), .lit (.int .u8 159)], .agg [.lit (.int .u8 144), .lit (.int .u8 191)], .agg [.lit (.int .u8 128), .lit (.int .u8 143)], .agg [.lit (.int .u8 0), .lit (.int .u8 0)], .agg [.lit (.int .u8 0), .lit (.int .u8 0)], .agg [.lit (.int .u8 0), .lit (.int .u8 0)], .agg [.lit (.int .u8 0), .lit (.int .u8 0)], .agg [.lit (.int .u8 0), .lit (.int .u8 0)], .agg [.lit (.int .u8 0), .lit (.int .u8 0)], .agg [.lit (.int .u8 0), .lit (.int .u8 0)], .agg [.lit (.int .u8 0), .lit (.int .u8 0)], .agg [.lit (.int .u8 0), .lit (.int .u8 0)], .agg [.lit (.int .u8 0), .lit (.int .u8 0)], .agg [.lit (.int .u8 0), .lit (.int .u8 0)]]
/-- One of Go's own tables, pinned by name: the form's constant. -/
def laid_unicode_utf8_first : DataW Unit := Go.Pinned.utf8First

/-- 'printworkskeep3.FoldLeavesBackToBack': WHATEVER THE INPUT: true; the input reads as it did. -/
def foldLeavesBackToBackSpec : ChangeSpec := { name := "foldLeavesBackToBack", fn := fun _ => fun
  | [d] => { results := [.lit (.bool true)], args := [d] }
  | _ => none }
def foldLeavesBackToBackRow : OpenClaim := { program := "ytjcijogdcafloaadoor", sum := "409bc3546f6a9c23a005d4e7300661b1eff9a0840bc183b7b9cd6eafb451a7dd", func := "printworks/printworkskeep3.FoldLeavesBackToBack", spec := "foldLeavesBackToBack", inPlace := ["internal/abi.NoEscape"], unfollowed := true, recurses := true, named := ["internal/strconv.uint64pow10", "math/bits.deBruijn32tab", "math/bits.deBruijn64tab"], apart := false, laid := [("math/bits.deBruijn32tab", laid_math_bits_deBruijn32tab), ("math/bits.deBruijn64tab", laid_math_bits_deBruijn64tab), ("internal/strconv.uint64pow10", laid_internal_strconv_uint64pow10)] }
def FoldLeavesBackToBackSaid : Prop := foldLeavesBackToBackRow.holds Tryd.pinned (OpenSpec.ofChange foldLeavesBackToBackSpec)

/-- ITS FALSE NEIGHBOUR: 'it returns false'. Refute it at one input. -/
def foldLeavesBackToBackWrong : ChangeSpec := { name := "foldLeavesBackToBack", fn := fun _ => fun
  | [d] => { results := [.lit (.bool false)], args := [d] }
  | _ => none }
def FoldLeavesBackToBackWrongFalsely : Prop := foldLeavesBackToBackRow.holds Tryd.pinned (OpenSpec.ofChange foldLeavesBackToBackWrong)

/-- 'printworkskeep3.FoldEveryPlaceOnce': WHATEVER THE INPUT: true; the input reads as it did. -/
def foldEveryPlaceOnceSpec : ChangeSpec := { name := "foldEveryPlaceOnce", fn := fun _ => fun
  | [d] => { results := [.lit (.bool true)], args := [d] }
  | _ => none }
def foldEveryPlaceOnceRow : OpenClaim := { program := "ytjcijogdcafloaadoor", sum := "409bc3546f6a9c23a005d4e7300661b1eff9a0840bc183b7b9cd6eafb451a7dd", func := "printworks/printworkskeep3.FoldEveryPlaceOnce", spec := "foldEveryPlaceOnce", inPlace := ["internal/abi.NoEscape"], unfollowed := true, recurses := true, named := ["internal/strconv.uint64pow10", "math/bits.deBruijn32tab", "math/bits.deBruijn64tab"], apart := false, laid := [("math/bits.deBruijn32tab", laid_math_bits_deBruijn32tab), ("math/bits.deBruijn64tab", laid_math_bits_deBruijn64tab), ("internal/strconv.uint64pow10", laid_internal_strconv_uint64pow10)] }
def FoldEveryPlaceOnceSaid : Prop := foldEveryPlaceOnceRow.holds Tryd.pinned (OpenSpec.ofChange foldEveryPlaceOnceSpec)

/-- ITS FALSE NEIGHBOUR: 'it returns false'. Refute it at one input. -/
def foldEveryPlaceOnceWrong : ChangeSpec := { name := "foldEveryPlaceOnce", fn := fun _ => fun
  | [d] => { results := [.lit (.bool false)], args := [d] }
  | _ => none }
def FoldEveryPlaceOnceWrongFalsely : Prop := foldEveryPlaceOnceRow.holds Tryd.pinned (OpenSpec.ofChange foldEveryPlaceOnceWrong)

/-- 'printworkskeep3.FoldLeavesRemain': WHATEVER THE INPUT: true; the input reads as it did. -/
def foldLeavesRemainSpec : ChangeSpec := { name := "foldLeavesRemain", fn := fun _ => fun
  | [d1, d2] => { results := [.lit (.bool true)], args := [d1, d2] }
  | _ => none }
def foldLeavesRemainRow : OpenClaim := { program := "ytjcijogdcafloaadoor", sum := "409bc3546f6a9c23a005d4e7300661b1eff9a0840bc183b7b9cd6eafb451a7dd", func := "printworks/printworkskeep3.FoldLeavesRemain", spec := "foldLeavesRemain", inPlace := ["internal/abi.NoEscape"], unfollowed := true, recurses := true, named := ["internal/strconv.uint64pow10", "math/bits.deBruijn32tab", "math/bits.deBruijn64tab"], apart := false, laid := [("math/bits.deBruijn32tab", laid_math_bits_deBruijn32tab), ("math/bits.deBruijn64tab", laid_math_bits_deBruijn64tab), ("internal/strconv.uint64pow10", laid_internal_strconv_uint64pow10)] }
def FoldLeavesRemainSaid : Prop := foldLeavesRemainRow.holds Tryd.pinned (OpenSpec.ofChange foldLeavesRemainSpec)

/-- ITS FALSE NEIGHBOUR: 'it returns false'. Refute it at one input. -/
def foldLeavesRemainWrong : ChangeSpec := { name := "foldLeavesRemain", fn := fun _ => fun
  | [d1, d2] => { results := [.lit (.bool false)], args := [d1, d2] }
  | _ => none }
def FoldLeavesRemainWrongFalsely : Prop := foldLeavesRemainRow.holds Tryd.pinned (OpenSpec.ofChange foldLeavesRemainWrong)

/-- 'printworkskeep3.FoldTurnedOver': WHATEVER THE INPUT: true; the input reads as it did. -/
def foldTurnedOverSpec : ChangeSpec := { name := "foldTurnedOver", fn := fun _ => fun
  | [d] => { results := [.lit (.bool true)], args := [d] }
  | _ => none }
def foldTurnedOverRow : OpenClaim := { program := "ytjcijogdcafloaadoor", sum := "409bc3546f6a9c23a005d4e7300661b1eff9a0840bc183b7b9cd6eafb451a7dd", func := "printworks/printworkskeep3.FoldTurnedOver", spec := "foldTurnedOver", inPlace := ["internal/abi.NoEscape"], unfollowed := true, recurses := true, named := ["internal/strconv.uint64pow10", "math/bits.deBruijn32tab", "math/bits.deBruijn64tab"], apart := false, laid := [("math/bits.deBruijn32tab", laid_math_bits_deBruijn32tab), ("math/bits.deBruijn64tab", laid_math_bits_deBruijn64tab), ("internal/strconv.uint64pow10", laid_internal_strconv_uint64pow10)] }
def FoldTurnedOverSaid : Prop := foldTurnedOverRow.holds Tryd.pinned (OpenSpec.ofChange foldTurnedOverSpec)

/-- ITS FALSE NEIGHBOUR: 'it returns false'. Refute it at one input. -/
def foldTurnedOverWrong : ChangeSpec := { name := "foldTurnedOver", fn := fun _ => fun
  | [d] => { results := [.lit (.bool false)], args := [d] }
  | _ => none }
def FoldTurnedOverWrongFalsely : Prop := foldTurnedOverRow.holds Tryd.pinned (OpenSpec.ofChange foldTurnedOverWrong)

/-- 'printworkskeep3.FoldPairsNest': WHATEVER THE INPUT: true; the input reads as it did. -/
def foldPairsNestSpec : ChangeSpec := { name := "foldPairsNest", fn := fun _ => fun
  | [d] => { results := [.lit (.bool true)], args := [d] }
  | _ => none }
def foldPairsNestRow : OpenClaim := { program := "ytjcijogdcafloaadoor", sum := "409bc3546f6a9c23a005d4e7300661b1eff9a0840bc183b7b9cd6eafb451a7dd", func := "printworks/printworkskeep3.FoldPairsNest", spec := "foldPairsNest", inPlace := ["internal/abi.NoEscape"], unfollowed := true, recurses := true, named := ["internal/strconv.uint64pow10", "math/bits.deBruijn32tab", "math/bits.deBruijn64tab"], apart := false, laid := [("math/bits.deBruijn32tab", laid_math_bits_deBruijn32tab), ("math/bits.deBruijn64tab", laid_math_bits_deBruijn64tab), ("internal/strconv.uint64pow10", laid_internal_strconv_uint64pow10)] }
def FoldPairsNestSaid : Prop := foldPairsNestRow.holds Tryd.pinned (OpenSpec.ofChange foldPairsNestSpec)

/-- ITS FALSE NEIGHBOUR: 'it returns false'. Refute it at one input. -/
def foldPairsNestWrong : ChangeSpec := { name := "foldPairsNest", fn := fun _ => fun
  | [d] => { results := [.lit (.bool false)], args := [d] }
  | _ => none }
def FoldPairsNestWrongFalsely : Prop := foldPairsNestRow.holds Tryd.pinned (OpenSpec.ofChange foldPairsNestWrong)

/-- 'printworkskeep3.FoldTextRoundTrip': WHATEVER THE INPUT: true; the input reads as it did. -/
def foldTextRoundTripSpec : ChangeSpec := { name := "foldTextRoundTrip", fn := fun _ => fun
  | [d1, d2] => { results := [.lit (.bool true)], args := [d1, d2] }
  | _ => none }
def foldTextRoundTripRow : OpenClaim := { program := "ytjcijogdcafloaadoor", sum := "409bc3546f6a9c23a005d4e7300661b1eff9a0840bc183b7b9cd6eafb451a7dd", func := "printworks/printworkskeep3.FoldTextRoundTrip", spec := "foldTextRoundTrip", inPlace := ["internal/abi.NoEscape", "internal/bytealg.CountString", "internal/bytealg.IndexByteString", "internal/bytealg.IndexString"], unfollowed := true, recurses := true, named := ["internal/strconv.uint64pow10", "math/bits.deBruijn32tab", "math/bits.deBruijn64tab", "unicode/utf8.first", "unicode/utf8.acceptRanges", "internal/bytealg.MaxLen"], apart := false, laid := [("math/bits.deBruijn32tab", laid_math_bits_deBruijn32tab), ("math/bits.deBruijn64tab", laid_math_bits_deBruijn64tab), ("internal/strconv.uint64pow10", laid_internal_strconv_uint64pow10), ("unicode/utf8.acceptRanges", laid_unicode_utf8_acceptRanges), ("unicode/utf8.first", laid_unicode_utf8_first)] }
def FoldTextRoundTripSaid : Prop := foldTextRoundTripRow.holds Tryd.pinned (OpenSpec.ofChange foldTextRoundTripSpec)

/-- ITS FALSE NEIGHBOUR: 'it returns false'. Refute it at one input. -/
def foldTextRoundTripWrong : ChangeSpec := { name := "foldTextRoundTrip", fn := fun _ => fun
  | [d1, d2] => { results := [.lit (.bool false)], args := [d1, d2] }
  | _ => none }
def FoldTextRoundTripWrongFalsely : Prop := foldTextRoundTripRow.holds Tryd.pinned (OpenSpec.ofChange foldTextRoundTripWrong)

/- THE SECOND FORM. 'bulk': how many values and letters a reading holds, each counted each time it is reached (what is shared counts as often as it is met; a slice's spare places count too). A statement '..UptoSaid' is the law's where the arguments, and the package variables that the reading takes, are together of bulk at most 1048576: NARROWER than '..Said'. Prove '..Said' where nothing that the law and all that it calls make is longer than what came in: it says more and counts as full. Else prove '..UptoSaid'. A law counts once. -/
mutual
def uptoBulk {H : Type} : DataW H → Nat
  | .lit (.string bytes) => bytes.length + 1
  | .lit _ => 1
  | .nil => 1
  | .ptr d => uptoBulk d + 1
  | .slice elems spare => uptoBulkAll elems + uptoBulkAll spare + 1
  | .agg parts => uptoBulkAll parts + 1
  | .iface _ d => uptoBulk d + 1
  | .map entries => uptoBulkEntries entries + 1
  | .held _ => 1
def uptoBulkAll {H : Type} : List (DataW H) → Nat
  | [] => 0
  | d :: r => uptoBulk d + uptoBulkAll r
def uptoBulkEntries {H : Type} : List (Lit × DataW H) → Nat
  | [] => 0
  | x :: r => uptoBulkEntry x + uptoBulkEntries r
def uptoBulkEntry {H : Type} : Lit × DataW H → Nat
  | (.string bytes, d) => bytes.length + uptoBulk d + 1
  | (_, d) => uptoBulk d + 1
 end
def uptoSmall : (H : Type) → List (DataW H) → Bool := fun _ ds => decide (uptoBulkAll ds ≤ 1048576)
def OpenSpec.upto (s : _root_.Go.ChangeSpec) : _root_.Go.OpenSpec := { _root_.Go.OpenSpec.ofChange s with cond := some uptoSmall }

/-- 'printworkskeep3.FoldLeavesBackToBack', WHERE WHAT IT READS IS OF BULK AT MOST 1048576: true; the input reads as it did. -/
def foldLeavesBackToBackUptoRow : OpenClaim := { program := "ytjcijogdcafloaadoor", sum := "409bc3546f6a9c23a005d4e7300661b1eff9a0840bc183b7b9cd6eafb451a7dd", func := "printworks/printworkskeep3.FoldLeavesBackToBack", spec := "foldLeavesBackToBack", inPlace := ["internal/abi.NoEscape"], unfollowed := true, recurses := true, named := ["internal/strconv.uint64pow10", "math/bits.deBruijn32tab", "math/bits.deBruijn64tab"], apart := false, laid := [("math/bits.deBruijn32tab", laid_math_bits_deBruijn32tab), ("math/bits.deBruijn64tab", laid_math_bits_deBruijn64tab), ("internal/strconv.uint64pow10", laid_internal_strconv_uint64pow10)], narrowed := true }
def FoldLeavesBackToBackUptoSaid : Prop := foldLeavesBackToBackUptoRow.holds Tryd.pinned (OpenSpec.upto foldLeavesBackToBackSpec)

/-- 'printworkskeep3.FoldEveryPlaceOnce', WHERE WHAT IT READS IS OF BULK AT MOST 1048576: true; the input reads as it did. -/
def foldEveryPlaceOnceUptoRow : OpenClaim := { program := "ytjcijogdcafloaadoor", sum := "409bc3546f6a9c23a005d4e7300661b1eff9a0840bc183b7b9cd6eafb451a7dd", func := "printworks/printworkskeep3.FoldEveryPlaceOnce", spec := "foldEveryPlaceOnce", inPlace := ["internal/abi.NoEscape"], unfollowed := true, recurses := true, named := ["internal/strconv.uint64pow10", "math/bits.deBruijn32tab", "math/bits.deBruijn64tab"], apart := false, laid := [("math/bits.deBruijn32tab", laid_math_bits_deBruijn32tab), ("math/bits.deBruijn64tab", laid_math_bits_deBruijn64tab), ("internal/strconv.uint64pow10", laid_internal_strconv_uint64pow10)], narrowed := true }
def FoldEveryPlaceOnceUptoSaid : Prop := foldEveryPlaceOnceUptoRow.holds Tryd.pinned (OpenSpec.upto foldEveryPlaceOnceSpec)

/-- 'printworkskeep3.FoldLeavesRemain', WHERE WHAT IT READS IS OF BULK AT MOST 1048576: true; the input reads as it did. -/
def foldLeavesRemainUptoRow : OpenClaim := { program := "ytjcijogdcafloaadoor", sum := "409bc3546f6a9c23a005d4e7300661b1eff9a0840bc183b7b9cd6eafb451a7dd", func := "printworks/printworkskeep3.FoldLeavesRemain", spec := "foldLeavesRemain", inPlace := ["internal/abi.NoEscape"], unfollowed := true, recurses := true, named := ["internal/strconv.uint64pow10", "math/bits.deBruijn32tab", "math/bits.deBruijn64tab"], apart := false, laid := [("math/bits.deBruijn32tab", laid_math_bits_deBruijn32tab), ("math/bits.deBruijn64tab", laid_math_bits_deBruijn64tab), ("internal/strconv.uint64pow10", laid_internal_strconv_uint64pow10)], narrowed := true }
def FoldLeavesRemainUptoSaid : Prop := foldLeavesRemainUptoRow.holds Tryd.pinned (OpenSpec.upto foldLeavesRemainSpec)

/-- 'printworkskeep3.FoldTurnedOver', WHERE WHAT IT READS IS OF BULK AT MOST 1048576: true; the input reads as it did. -/
def foldTurnedOverUptoRow : OpenClaim := { program := "ytjcijogdcafloaadoor", sum := "409bc3546f6a9c23a005d4e7300661b1eff9a0840bc183b7b9cd6eafb451a7dd", func := "printworks/printworkskeep3.FoldTurnedOver", spec := "foldTurnedOver", inPlace := ["internal/abi.NoEscape"], unfollowed := true, recurses := true, named := ["internal/strconv.uint64pow10", "math/bits.deBruijn32tab", "math/bits.deBruijn64tab"], apart := false, laid := [("math/bits.deBruijn32tab", laid_math_bits_deBruijn32tab), ("math/bits.deBruijn64tab", laid_math_bits_deBruijn64tab), ("internal/strconv.uint64pow10", laid_internal_strconv_uint64pow10)], narrowed := true }
def FoldTurnedOverUptoSaid : Prop := foldTurnedOverUptoRow.holds Tryd.pinned (OpenSpec.upto foldTurnedOverSpec)

/-- 'printworkskeep3.FoldPairsNest', WHERE WHAT IT READS IS OF BULK AT MOST 1048576: true; the input reads as it did. -/
def foldPairsNestUptoRow : OpenClaim := { program := "ytjcijogdcafloaadoor", sum := "409bc3546f6a9c23a005d4e7300661b1eff9a0840bc183b7b9cd6eafb451a7dd", func := "printworks/printworkskeep3.FoldPairsNest", spec := "foldPairsNest", inPlace := ["internal/abi.NoEscape"], unfollowed := true, recurses := true, named := ["internal/strconv.uint64pow10", "math/bits.deBruijn32tab", "math/bits.deBruijn64tab"], apart := false, laid := [("math/bits.deBruijn32tab", laid_math_bits_deBruijn32tab), ("math/bits.deBruijn64tab", laid_math_bits_deBruijn64tab), ("internal/strconv.uint64pow10", laid_internal_strconv_uint64pow10)], narrowed := true }
def FoldPairsNestUptoSaid : Prop := foldPairsNestUptoRow.holds Tryd.pinned (OpenSpec.upto foldPairsNestSpec)

/-- 'printworkskeep3.FoldTextRoundTrip', WHERE WHAT IT READS IS OF BULK AT MOST 1048576: true; the input reads as it did. -/
def foldTextRoundTripUptoRow : OpenClaim := { program := "ytjcijogdcafloaadoor", sum := "409bc3546f6a9c23a005d4e7300661b1eff9a0840bc183b7b9cd6eafb451a7dd", func := "printworks/printworkskeep3.FoldTextRoundTrip", spec := "foldTextRoundTrip", inPlace := ["internal/abi.NoEscape", "internal/bytealg.CountString", "internal/bytealg.IndexByteString", "internal/bytealg.IndexString"], unfollowed := true, recurses := true, named := ["internal/strconv.uint64pow10", "math/bits.deBruijn32tab", "math/bits.deBruijn64tab", "unicode/utf8.first", "unicode/utf8.acceptRanges", "internal/bytealg.MaxLen"], apart := false, laid := [("math/bits.deBruijn32tab", laid_math_bits_deBruijn32tab), ("math/bits.deBruijn64tab", laid_math_bits_deBruijn64tab), ("internal/strconv.uint64pow10", laid_internal_strconv_uint64pow10), ("unicode/utf8.acceptRanges", laid_unicode_utf8_acceptRanges), ("unicode/utf8.first", laid_unicode_utf8_first)], narrowed := true }
def FoldTextRoundTripUptoSaid : Prop := foldTextRoundTripUptoRow.holds Tryd.pinned (OpenSpec.upto foldTextRoundTripSpec)

end Rows
end Go.Proofs.YtjcijogdcafloaaDoor
