/-
  NARROWER THAN 'FOR EVERY INPUT', by the rows' own cells (each row's printed sentence says how): FontPlacesDivide: laid · FontDecodeUnique: laid · FontEncodeDecode: laid · FontSubsetTwice: laid · FontSubsetKeepsText: laid · ParaSetOneLine: laid.
  DERIVED. THE GIVEN ROWS OF THIS SEAT. 6 by the template 'for every input the law returns true; each argument reads behind the call as it read before'; 0 by the template 'total and deterministic' (their statements: YtefkglmdkjkbiaaDoorTotals.lean).
  GIVEN WITH THE SEED: the statements are not yours to turn. If you find one false, say at which input.
  Laid BY PROGRAM, IN A SANDBOX (cutbox-rows.mjs): the forced cells as the released guide's own fill.sh prints them over the translation 65701802e536a81b… (all of the seat's roots in one cut). By AI agents, Wed Nov 11 2026. No macro, syntax, notation, axiom, sorry.
-/
import Derived.Test.YtefkglmdkjkbiaaDoorChecked
import GoSem.PinnedTables
import GoSem.Claim
import GoSem.ClaimJoined
import GoSem.ClaimMapViews
import Derived.JoinedTies
import Derived.KernelRfl
namespace Go.Proofs.YtefkglmdkjkbiaaDoor
/- THE CELL 'sum', in the pinned program and in every row, IS THE sha256 OF THE DUMP (.gsa) THAT YtefkglmdkjkbiaaDoorProg.lean LOADS. Nothing in Lean hashes anything: it is a label: what it is worth is what the hold of that sum in a sandbox is worth. -/
noncomputable def Tryd.pinned : Pinned := { name := "ytefkglmdkjkbiaadoor", sum := "65701802e536a81b6bdbbff76da732e84d6ddf857ca84955975eb9a454b52316", checked := Tryd.checked }
namespace Rows
def none {H : Type} : Left H := { results := [], args := [] }

/- WHAT THE LISTED PACKAGE-LEVEL VARIABLES READ AS WHEN THE CALL BEGINS. Each datum BY PROGRAM (the guide's laid-datum.mjs) off the statement by which the dump's own 'gosem.cut.vars' lays the variable. In a bare row this is a premise. The card (YtefkglmdkjkbiaaDoorCards.lean) ties it to the program's text. -/
def laid_printworks_filter_steps {H : Type} : DataW H := .agg [.lit (.int .u32 0), .lit (.int .u32 498536548), .lit (.int .u32 997073096), .lit (.int .u32 651767980), .lit (.int .u32 1994146192), .lit (.int .u32 1802195444), .lit (.int .u32 1303535960), .lit (.int .u32 1342533948), .lit (.int .u32 3988292384), .lit (.int .u32 4027552580), .lit (.int .u32 3604390888), .lit (.int .u32 3412177804), .lit (.int .u32 2607071920), .lit (.int .u32 2262029012), .lit (.int .u32 2685067896), .lit (.int .u32 3183342108)]
def laid_unicode_utf8_acceptRanges {H : Type} : DataW H := .agg [.agg [.lit (.int .u8 128), .lit (.int .u8 191)], .agg [.lit (.int .u8 160), .lit (.int .u8 191)], .agg [.lit (.int .u8 128), .lit (.int .u8 159)], .agg [.lit (.int .u8 144), .lit (.int .u8 191)], .agg [.lit (.int .u8 128), .lit (.int .u8 143)], .agg [.lit (.int .u8 0), .lit (.int .u8 0)], .agg [.lit (.int .u8 0), .lit (.int .u8 0)], .agg [.lit (.int .u8 0), .lit (.int .u8 0)], .agg [.lit (.int .u8 0), .lit (.int .u8 0)], .agg [.lit (.int .u8 0), .lit (.int .u8 0)], .agg [.lit (.int .u8 0), .lit (.int .u8 0)], .agg [.lit (.int .u8 0), .lit (.int .u8 0)], .agg [.lit (.int .u8 0), .lit (.int .u8 0)], .agg [.lit (.int .u8 0), .lit (.int .u8 0)], .agg [.lit (.int .u8 0), .lit (.int .u8 0)], .agg [.lit (.int .u8 0), .lit (.int .u8 0)]]
/-- One of Go's own tables, pinned by name: the form's constant. -/
def laid_unicode_utf8_first : DataW Unit := Go.Pinned.utf8First

/-- 'printworkskeep3.FontPlacesDivide': WHATEVER THE INPUT: true; the input reads as it did. -/
def fontPlacesDivideSpec : ChangeSpec := { name := "fontPlacesDivide", fn := fun _ => fun
  | [d1, d2, d3] => { results := [.lit (.bool true)], args := [d1, d2, d3] }
  | _ => none }
def fontPlacesDivideRow : OpenClaim := { program := "ytefkglmdkjkbiaadoor", sum := "65701802e536a81b6bdbbff76da732e84d6ddf857ca84955975eb9a454b52316", func := "printworks/printworkskeep3.FontPlacesDivide", spec := "fontPlacesDivide", inPlace := ["internal/abi.NoEscape"], unfollowed := true, recurses := true, named := ["printworks/filter.steps"], apart := false, laid := [("printworks/filter.steps", laid_printworks_filter_steps)] }
def FontPlacesDivideSaid : Prop := fontPlacesDivideRow.holds Tryd.pinned (OpenSpec.ofChange fontPlacesDivideSpec)

/-- ITS FALSE NEIGHBOUR: 'it returns false'. Refute it at one input. -/
def fontPlacesDivideWrong : ChangeSpec := { name := "fontPlacesDivide", fn := fun _ => fun
  | [d1, d2, d3] => { results := [.lit (.bool false)], args := [d1, d2, d3] }
  | _ => none }
def FontPlacesDivideWrongFalsely : Prop := fontPlacesDivideRow.holds Tryd.pinned (OpenSpec.ofChange fontPlacesDivideWrong)

/-- 'printworkskeep3.FontDecodeUnique': WHATEVER THE INPUT: true; the input reads as it did. -/
def fontDecodeUniqueSpec : ChangeSpec := { name := "fontDecodeUnique", fn := fun _ => fun
  | [d1, d2, d3] => { results := [.lit (.bool true)], args := [d1, d2, d3] }
  | _ => none }
def fontDecodeUniqueRow : OpenClaim := { program := "ytefkglmdkjkbiaadoor", sum := "65701802e536a81b6bdbbff76da732e84d6ddf857ca84955975eb9a454b52316", func := "printworks/printworkskeep3.FontDecodeUnique", spec := "fontDecodeUnique", inPlace := ["internal/abi.NoEscape"], unfollowed := true, recurses := true, named := ["printworks/filter.steps"], apart := false, laid := [("printworks/filter.steps", laid_printworks_filter_steps)] }
def FontDecodeUniqueSaid : Prop := fontDecodeUniqueRow.holds Tryd.pinned (OpenSpec.ofChange fontDecodeUniqueSpec)

/-- ITS FALSE NEIGHBOUR: 'it returns false'. Refute it at one input. -/
def fontDecodeUniqueWrong : ChangeSpec := { name := "fontDecodeUnique", fn := fun _ => fun
  | [d1, d2, d3] => { results := [.lit (.bool false)], args := [d1, d2, d3] }
  | _ => none }
def FontDecodeUniqueWrongFalsely : Prop := fontDecodeUniqueRow.holds Tryd.pinned (OpenSpec.ofChange fontDecodeUniqueWrong)

/-- 'printworkskeep3.FontEncodeDecode': WHATEVER THE INPUT: true; the input reads as it did. -/
def fontEncodeDecodeSpec : ChangeSpec := { name := "fontEncodeDecode", fn := fun _ => fun
  | [d] => { results := [.lit (.bool true)], args := [d] }
  | _ => none }
def fontEncodeDecodeRow : OpenClaim := { program := "ytefkglmdkjkbiaadoor", sum := "65701802e536a81b6bdbbff76da732e84d6ddf857ca84955975eb9a454b52316", func := "printworks/printworkskeep3.FontEncodeDecode", spec := "fontEncodeDecode", inPlace := ["internal/abi.NoEscape"], unfollowed := true, recurses := true, named := ["printworks/filter.steps"], apart := false, laid := [("printworks/filter.steps", laid_printworks_filter_steps)] }
def FontEncodeDecodeSaid : Prop := fontEncodeDecodeRow.holds Tryd.pinned (OpenSpec.ofChange fontEncodeDecodeSpec)

/-- ITS FALSE NEIGHBOUR: 'it returns false'. Refute it at one input. -/
def fontEncodeDecodeWrong : ChangeSpec := { name := "fontEncodeDecode", fn := fun _ => fun
  | [d] => { results := [.lit (.bool false)], args := [d] }
  | _ => none }
def FontEncodeDecodeWrongFalsely : Prop := fontEncodeDecodeRow.holds Tryd.pinned (OpenSpec.ofChange fontEncodeDecodeWrong)

/-- 'printworkskeep3.FontSubsetTwice': WHATEVER THE INPUT: true; the input reads as it did. -/
def fontSubsetTwiceSpec : ChangeSpec := { name := "fontSubsetTwice", fn := fun _ => fun
  | [d1, d2] => { results := [.lit (.bool true)], args := [d1, d2] }
  | _ => none }
def fontSubsetTwiceRow : OpenClaim := { program := "ytefkglmdkjkbiaadoor", sum := "65701802e536a81b6bdbbff76da732e84d6ddf857ca84955975eb9a454b52316", func := "printworks/printworkskeep3.FontSubsetTwice", spec := "fontSubsetTwice", inPlace := ["internal/abi.NoEscape"], unfollowed := true, recurses := true, named := ["printworks/filter.steps"], apart := false, laid := [("printworks/filter.steps", laid_printworks_filter_steps)] }
def FontSubsetTwiceSaid : Prop := fontSubsetTwiceRow.holds Tryd.pinned (OpenSpec.ofChange fontSubsetTwiceSpec)

/-- ITS FALSE NEIGHBOUR: 'it returns false'. Refute it at one input. -/
def fontSubsetTwiceWrong : ChangeSpec := { name := "fontSubsetTwice", fn := fun _ => fun
  | [d1, d2] => { results := [.lit (.bool false)], args := [d1, d2] }
  | _ => none }
def FontSubsetTwiceWrongFalsely : Prop := fontSubsetTwiceRow.holds Tryd.pinned (OpenSpec.ofChange fontSubsetTwiceWrong)

/-- 'printworkskeep3.FontSubsetKeepsText': WHATEVER THE INPUT: true; the input reads as it did. -/
def fontSubsetKeepsTextSpec : ChangeSpec := { name := "fontSubsetKeepsText", fn := fun _ => fun
  | [d1, d2, d3] => { results := [.lit (.bool true)], args := [d1, d2, d3] }
  | _ => none }
def fontSubsetKeepsTextRow : OpenClaim := { program := "ytefkglmdkjkbiaadoor", sum := "65701802e536a81b6bdbbff76da732e84d6ddf857ca84955975eb9a454b52316", func := "printworks/printworkskeep3.FontSubsetKeepsText", spec := "fontSubsetKeepsText", inPlace := ["internal/abi.NoEscape"], unfollowed := true, recurses := true, named := ["printworks/filter.steps"], apart := false, laid := [("printworks/filter.steps", laid_printworks_filter_steps)] }
def FontSubsetKeepsTextSaid : Prop := fontSubsetKeepsTextRow.holds Tryd.pinned (OpenSpec.ofChange fontSubsetKeepsTextSpec)

/-- ITS FALSE NEIGHBOUR: 'it returns false'. Refute it at one input. -/
def fontSubsetKeepsTextWrong : ChangeSpec := { name := "fontSubsetKeepsText", fn := fun _ => fun
  | [d1, d2, d3] => { results := [.lit (.bool false)], args := [d1, d2, d3] }
  | _ => none }
def FontSubsetKeepsTextWrongFalsely : Prop := fontSubsetKeepsTextRow.holds Tryd.pinned (OpenSpec.ofChange fontSubsetKeepsTextWrong)

/-- 'printworkskeep3.ParaSetOneLine': WHATEVER THE INPUT: true; the input reads as it did. -/
def paraSetOneLineSpec : ChangeSpec := { name := "paraSetOneLine", fn := fun _ => fun
  | [d1, d2, d3] => { results := [.lit (.bool true)], args := [d1, d2, d3] }
  | _ => none }
def paraSetOneLineRow : OpenClaim := { program := "ytefkglmdkjkbiaadoor", sum := "65701802e536a81b6bdbbff76da732e84d6ddf857ca84955975eb9a454b52316", func := "printworks/printworkskeep3.ParaSetOneLine", spec := "paraSetOneLine", inPlace := ["internal/abi.NoEscape", "internal/bytealg.CountString", "internal/bytealg.IndexByteString", "internal/bytealg.IndexString", "internal/bytealg.MakeNoZero"], unfollowed := true, recurses := true, named := ["printworks/filter.steps", "internal/bytealg.MaxLen", "unicode/utf8.first", "unicode/utf8.acceptRanges"], apart := false, laid := [("unicode/utf8.acceptRanges", laid_unicode_utf8_acceptRanges), ("printworks/filter.steps", laid_printworks_filter_steps), ("unicode/utf8.first", laid_unicode_utf8_first)] }
def ParaSetOneLineSaid : Prop := paraSetOneLineRow.holds Tryd.pinned (OpenSpec.ofChange paraSetOneLineSpec)

/-- ITS FALSE NEIGHBOUR: 'it returns false'. Refute it at one input. -/
def paraSetOneLineWrong : ChangeSpec := { name := "paraSetOneLine", fn := fun _ => fun
  | [d1, d2, d3] => { results := [.lit (.bool false)], args := [d1, d2, d3] }
  | _ => none }
def ParaSetOneLineWrongFalsely : Prop := paraSetOneLineRow.holds Tryd.pinned (OpenSpec.ofChange paraSetOneLineWrong)

/- THE SECOND FORM. 'bulk': how many values and letters a reading holds, each counted each time it is reached (what is shared counts as often as it is met; a slice's spare places count too). A statement '..UptoSaid' is the law's where the arguments, and the package variables that the reading takes, are together of bulk at most 1048576: NARROWER than '..Said'. Prove '..Said' where nothing that the law and all that it calls make is longer than what came in: it says more and counts as full. Else prove '..UptoSaid'. A law counts once. -/
mutual
def uptoBulk {H : Type} : DataW H → Nat
  | .lit (.string bytes) => bytes.length + 1
  | .lit _ => 1
  | .nil => 1
  | .ptr d => uptoBulk d + 1
  | .slice elems spare => uptoBulkAll elems + uptoBulkAll spare + 1
  | .agg parts => uptoBulkAll parts + 1
  | .iface _ d => uptoBulk d + 1
  | .map entries => uptoBulkEntries entries + 1
  | .held _ => 1
def uptoBulkAll {H : Type} : List (DataW H) → Nat
  | [] => 0
  | d :: r => uptoBulk d + uptoBulkAll r
def uptoBulkEntries {H : Type} : List (Lit × DataW H) → Nat
  | [] => 0
  | x :: r => uptoBulkEntry x + uptoBulkEntries r
def uptoBulkEntry {H : Type} : Lit × DataW H → Nat
  | (.string bytes, d) => bytes.length + uptoBulk d + 1
  | (_, d) => uptoBulk d + 1
 end
def uptoSmall : (H : Type) → List (DataW H) → Bool := fun _ ds => decide (uptoBulkAll ds ≤ 1048576)
def OpenSpec.upto (s : _root_.Go.ChangeSpec) : _root_.Go.OpenSpec := { _root_.Go.OpenSpec.ofChange s with cond := some uptoSmall }

/-- 'printworkskeep3.FontPlacesDivide', WHERE WHAT IT READS IS OF BULK AT MOST 1048576: true; the input reads as it did. -/
def fontPlacesDivideUptoRow : OpenClaim := { program := "ytefkglmdkjkbiaadoor", sum := "65701802e536a81b6bdbbff76da732e84d6ddf857ca84955975eb9a454b52316", func := "printworks/printworkskeep3.FontPlacesDivide", spec := "fontPlacesDivide", inPlace := ["internal/abi.NoEscape"], unfollowed := true, recurses := true, named := ["printworks/filter.steps"], apart := false, laid := [("printworks/filter.steps", laid_printworks_filter_steps)], narrowed := true }
def FontPlacesDivideUptoSaid : Prop := fontPlacesDivideUptoRow.holds Tryd.pinned (OpenSpec.upto fontPlacesDivideSpec)

/-- 'printworkskeep3.FontDecodeUnique', WHERE WHAT IT READS IS OF BULK AT MOST 1048576: true; the input reads as it did. -/
def fontDecodeUniqueUptoRow : OpenClaim := { program := "ytefkglmdkjkbiaadoor", sum := "65701802e536a81b6bdbbff76da732e84d6ddf857ca84955975eb9a454b52316", func := "printworks/printworkskeep3.FontDecodeUnique", spec := "fontDecodeUnique", inPlace := ["internal/abi.NoEscape"], unfollowed := true, recurses := true, named := ["printworks/filter.steps"], apart := false, laid := [("printworks/filter.steps", laid_printworks_filter_steps)], narrowed := true }
def FontDecodeUniqueUptoSaid : Prop := fontDecodeUniqueUptoRow.holds Tryd.pinned (OpenSpec.upto fontDecodeUniqueSpec)

/-- 'printworkskeep3.FontEncodeDecode', WHERE WHAT IT READS IS OF BULK AT MOST 1048576: true; the input reads as it did. -/
def fontEncodeDecodeUptoRow : OpenClaim := { program := "ytefkglmdkjkbiaadoor", sum := "65701802e536a81b6bdbbff76da732e84d6ddf857ca84955975eb9a454b52316", func := "printworks/printworkskeep3.FontEncodeDecode", spec := "fontEncodeDecode", inPlace := ["internal/abi.NoEscape"], unfollowed := true, recurses := true, named := ["printworks/filter.steps"], apart := false, laid := [("printworks/filter.steps", laid_printworks_filter_steps)], narrowed := true }
def FontEncodeDecodeUptoSaid : Prop := fontEncodeDecodeUptoRow.holds Tryd.pinned (OpenSpec.upto fontEncodeDecodeSpec)

/-- 'printworkskeep3.FontSubsetTwice', WHERE WHAT IT READS IS OF BULK AT MOST 1048576: true; the input reads as it did. -/
def fontSubsetTwiceUptoRow : OpenClaim := { program := "ytefkglmdkjkbiaadoor", sum := "65701802e536a81b6bdbbff76da732e84d6ddf857ca84955975eb9a454b52316", func := "printworks/printworkskeep3.FontSubsetTwice", spec := "fontSubsetTwice", inPlace := ["internal/abi.NoEscape"], unfollowed := true, recurses := true, named := ["printworks/filter.steps"], apart := false, laid := [("printworks/filter.steps", laid_printworks_filter_steps)], narrowed := true }
def FontSubsetTwiceUptoSaid : Prop := fontSubsetTwiceUptoRow.holds Tryd.pinned (OpenSpec.upto fontSubsetTwiceSpec)

/-- 'printworkskeep3.FontSubsetKeepsText', WHERE WHAT IT READS IS OF BULK AT MOST 1048576: true; the input reads as it did. -/
def fontSubsetKeepsTextUptoRow : OpenClaim := { program := "ytefkglmdkjkbiaadoor", sum := "65701802e536a81b6bdbbff76da732e84d6ddf857ca84955975eb9a454b52316", func := "printworks/printworkskeep3.FontSubsetKeepsText", spec := "fontSubsetKeepsText", inPlace := ["internal/abi.NoEscape"], unfollowed := true, recurses := true, named := ["printworks/filter.steps"], apart := false, laid := [("printworks/filter.steps", laid_printworks_filter_steps)], narrowed := true }
def FontSubsetKeepsTextUptoSaid : Prop := fontSubsetKeepsTextUptoRow.holds Tryd.pinned (OpenSpec.upto fontSubsetKeepsTextSpec)

/-- 'printworkskeep3.ParaSetOneLine', WHERE WHAT IT READS IS OF BULK AT MOST 1048576: true; the input reads as it did. -/
def paraSetOneLineUptoRow : OpenClaim := { program := "ytefkglmdkjkbiaadoor", sum := "65701802e536a81b6bdbbff76da732e84d6ddf857ca84955975eb9a454b52316", func := "printworks/printworkskeep3.ParaSetOneLine", spec := "paraSetOneLine", inPlace := ["internal/abi.NoEscape", "internal/bytealg.CountString", "internal/bytealg.IndexByteString", "internal/bytealg.IndexString", "internal/bytealg.MakeNoZero"], unfollowed := true, recurses := true, named := ["printworks/filter.steps", "internal/bytealg.MaxLen", "unicode/utf8.first", "unicode/utf8.acceptRanges"], apart := false, laid := [("unicode/utf8.acceptRanges", laid_unicode_utf8_acceptRanges), ("printworks/filter.steps", laid_printworks_filter_steps), ("unicode/utf8.first", laid_unicode_utf8_first)], narrowed := true }
def ParaSetOneLineUptoSaid : Prop := paraSetOneLineUptoRow.holds Tryd.pinned (OpenSpec.upto paraSetOneLineSpec)

end Rows
end Go.Proofs.YtefkglmdkjkbiaaDoor
