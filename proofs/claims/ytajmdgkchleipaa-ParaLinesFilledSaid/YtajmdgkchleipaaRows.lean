/-
  No cell of these rows narrows 'for every input' (looked for: loops, veiled, ifaces, maps, wideKeys, modest, calm, conditions, laid).
  DERIVED. THE GIVEN ROWS OF THIS SEAT. 3 by the template 'for every input the law returns true; each argument reads behind the call as it read before'; 0 by the template 'total and deterministic' (their statements: YtajmdgkchleipaaTotals.lean).
  GIVEN WITH THE SEED: the statements are not yours to turn. If you find one false, say at which input.
  Laid BY PROGRAM, IN A SANDBOX (cutbox-rows.mjs): the forced cells as the released guide's own fill.sh prints them over the translation 84ec0f70afa8b9cf… (all of the seat's roots in one cut). By AI agents, Wed Nov 11 2026. No macro, syntax, notation, axiom, sorry.
-/
import Derived.Test.YtajmdgkchleipaaChecked
import GoSem.Claim
import GoSem.ClaimJoined
import GoSem.ClaimMapViews
import Derived.JoinedTies
import Derived.KernelRfl
namespace Go.Proofs.Ytajmdgkchleipaa
/- THE CELL 'sum', in the pinned program and in every row, IS THE sha256 OF THE DUMP (.gsa) THAT YtajmdgkchleipaaProg.lean LOADS. Nothing in Lean hashes anything: it is a label: what it is worth is what the hold of that sum in a sandbox is worth. -/
noncomputable def Try.pinned : Pinned := { name := "ytajmdgkchleipaa", sum := "84ec0f70afa8b9cf70a736a87690a04b4735751976cded3357551797b1e2bd5e", checked := Try.checked }
namespace Rows
def none {H : Type} : Left H := { results := [], args := [] }

/-- 'printworkskeep3.ParaLinesCoverWords': WHATEVER THE INPUT: true; the input reads as it did. -/
def paraLinesCoverWordsSpec : ChangeSpec := { name := "paraLinesCoverWords", fn := fun _ => fun
  | [d1, d2] => { results := [.lit (.bool true)], args := [d1, d2] }
  | _ => none }
def paraLinesCoverWordsRow : OpenClaim := { program := "ytajmdgkchleipaa", sum := "84ec0f70afa8b9cf70a736a87690a04b4735751976cded3357551797b1e2bd5e", func := "printworks/printworkskeep3.ParaLinesCoverWords", spec := "paraLinesCoverWords", apart := false }
def ParaLinesCoverWordsSaid : Prop := paraLinesCoverWordsRow.holds Try.pinned (OpenSpec.ofChange paraLinesCoverWordsSpec)

/-- ITS FALSE NEIGHBOUR: 'it returns false'. Refute it at one input. -/
def paraLinesCoverWordsWrong : ChangeSpec := { name := "paraLinesCoverWords", fn := fun _ => fun
  | [d1, d2] => { results := [.lit (.bool false)], args := [d1, d2] }
  | _ => none }
def ParaLinesCoverWordsWrongFalsely : Prop := paraLinesCoverWordsRow.holds Try.pinned (OpenSpec.ofChange paraLinesCoverWordsWrong)

/-- 'printworkskeep3.ParaLinesFilled': WHATEVER THE INPUT: true; the input reads as it did. -/
def paraLinesFilledSpec : ChangeSpec := { name := "paraLinesFilled", fn := fun _ => fun
  | [d1, d2] => { results := [.lit (.bool true)], args := [d1, d2] }
  | _ => none }
def paraLinesFilledRow : OpenClaim := { program := "ytajmdgkchleipaa", sum := "84ec0f70afa8b9cf70a736a87690a04b4735751976cded3357551797b1e2bd5e", func := "printworks/printworkskeep3.ParaLinesFilled", spec := "paraLinesFilled", unfollowed := true, recurses := true, apart := false }
def ParaLinesFilledSaid : Prop := paraLinesFilledRow.holds Try.pinned (OpenSpec.ofChange paraLinesFilledSpec)

/-- ITS FALSE NEIGHBOUR: 'it returns false'. Refute it at one input. -/
def paraLinesFilledWrong : ChangeSpec := { name := "paraLinesFilled", fn := fun _ => fun
  | [d1, d2] => { results := [.lit (.bool false)], args := [d1, d2] }
  | _ => none }
def ParaLinesFilledWrongFalsely : Prop := paraLinesFilledRow.holds Try.pinned (OpenSpec.ofChange paraLinesFilledWrong)

/-- 'printworkskeep3.ParaTailOptimal': WHATEVER THE INPUT: true; the input reads as it did. -/
def paraTailOptimalSpec : ChangeSpec := { name := "paraTailOptimal", fn := fun _ => fun
  | [d1, d2] => { results := [.lit (.bool true)], args := [d1, d2] }
  | _ => none }
def paraTailOptimalRow : OpenClaim := { program := "ytajmdgkchleipaa", sum := "84ec0f70afa8b9cf70a736a87690a04b4735751976cded3357551797b1e2bd5e", func := "printworks/printworkskeep3.ParaTailOptimal", spec := "paraTailOptimal", apart := false }
def ParaTailOptimalSaid : Prop := paraTailOptimalRow.holds Try.pinned (OpenSpec.ofChange paraTailOptimalSpec)

/-- ITS FALSE NEIGHBOUR: 'it returns false'. Refute it at one input. -/
def paraTailOptimalWrong : ChangeSpec := { name := "paraTailOptimal", fn := fun _ => fun
  | [d1, d2] => { results := [.lit (.bool false)], args := [d1, d2] }
  | _ => none }
def ParaTailOptimalWrongFalsely : Prop := paraTailOptimalRow.holds Try.pinned (OpenSpec.ofChange paraTailOptimalWrong)

/- THE SECOND FORM. 'bulk': how many values and letters a reading holds, each counted each time it is reached (what is shared counts as often as it is met; a slice's spare places count too). A statement '..UptoSaid' is the law's where the arguments, and the package variables that the reading takes, are together of bulk at most 1048576: NARROWER than '..Said'. Prove '..Said' where nothing that the law and all that it calls make is longer than what came in: it says more and counts as full. Else prove '..UptoSaid'. A law counts once. -/
mutual
def uptoBulk {H : Type} : DataW H → Nat
  | .lit (.string bytes) => bytes.length + 1
  | .lit _ => 1
  | .nil => 1
  | .ptr d => uptoBulk d + 1
  | .slice elems spare => uptoBulkAll elems + uptoBulkAll spare + 1
  | .agg parts => uptoBulkAll parts + 1
  | .iface _ d => uptoBulk d + 1
  | .map entries => uptoBulkEntries entries + 1
  | .held _ => 1
def uptoBulkAll {H : Type} : List (DataW H) → Nat
  | [] => 0
  | d :: r => uptoBulk d + uptoBulkAll r
def uptoBulkEntries {H : Type} : List (Lit × DataW H) → Nat
  | [] => 0
  | x :: r => uptoBulkEntry x + uptoBulkEntries r
def uptoBulkEntry {H : Type} : Lit × DataW H → Nat
  | (.string bytes, d) => bytes.length + uptoBulk d + 1
  | (_, d) => uptoBulk d + 1
 end
def uptoSmall : (H : Type) → List (DataW H) → Bool := fun _ ds => decide (uptoBulkAll ds ≤ 1048576)
def OpenSpec.upto (s : _root_.Go.ChangeSpec) : _root_.Go.OpenSpec := { _root_.Go.OpenSpec.ofChange s with cond := some uptoSmall }

/-- 'printworkskeep3.ParaLinesCoverWords', WHERE WHAT IT READS IS OF BULK AT MOST 1048576: true; the input reads as it did. -/
def paraLinesCoverWordsUptoRow : OpenClaim := { program := "ytajmdgkchleipaa", sum := "84ec0f70afa8b9cf70a736a87690a04b4735751976cded3357551797b1e2bd5e", func := "printworks/printworkskeep3.ParaLinesCoverWords", spec := "paraLinesCoverWords", apart := false, narrowed := true }
def ParaLinesCoverWordsUptoSaid : Prop := paraLinesCoverWordsUptoRow.holds Try.pinned (OpenSpec.upto paraLinesCoverWordsSpec)

/-- 'printworkskeep3.ParaLinesFilled', WHERE WHAT IT READS IS OF BULK AT MOST 1048576: true; the input reads as it did. -/
def paraLinesFilledUptoRow : OpenClaim := { program := "ytajmdgkchleipaa", sum := "84ec0f70afa8b9cf70a736a87690a04b4735751976cded3357551797b1e2bd5e", func := "printworks/printworkskeep3.ParaLinesFilled", spec := "paraLinesFilled", unfollowed := true, recurses := true, apart := false, narrowed := true }
def ParaLinesFilledUptoSaid : Prop := paraLinesFilledUptoRow.holds Try.pinned (OpenSpec.upto paraLinesFilledSpec)

/-- 'printworkskeep3.ParaTailOptimal', WHERE WHAT IT READS IS OF BULK AT MOST 1048576: true; the input reads as it did. -/
def paraTailOptimalUptoRow : OpenClaim := { program := "ytajmdgkchleipaa", sum := "84ec0f70afa8b9cf70a736a87690a04b4735751976cded3357551797b1e2bd5e", func := "printworks/printworkskeep3.ParaTailOptimal", spec := "paraTailOptimal", apart := false, narrowed := true }
def ParaTailOptimalUptoSaid : Prop := paraTailOptimalUptoRow.holds Try.pinned (OpenSpec.upto paraTailOptimalSpec)

end Rows
end Go.Proofs.Ytajmdgkchleipaa
