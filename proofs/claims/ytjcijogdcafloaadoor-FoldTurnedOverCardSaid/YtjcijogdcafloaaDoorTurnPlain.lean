/- A layout with every fold's over turned: Pile answers alike, and the piles are mirrored. -/
import Derived.Test.YtjcijogdcafloaaDoorFoldLaw
import Derived.Test.YtjcijogdcafloaaDoorSizePile
namespace Go.Proofs.YtjcijogdcafloaaDoor
open Go.RowKit
theorem chkSteps_other {l : List Step} : ∀ {S T : Sheet}, Mirror S T → chkSteps T (l.map other) = chkSteps S l := by
  induction l with
  | nil => intro S T _; rfl
  | cons f l ih =>
    intro S T h
    have he : ext T (other f) = ext S f := by unfold ext; rw [h.1, h.2.1]; rfl
    show (if f.side < 0 ∨ 3 < f.side then 14 else if f.line < 1 ∨ (ext T (other f) : Int) ≤ f.line then 3 else chkSteps (foldS T (other f)) (l.map other)) = _
    rw [he, ih (mirror_fold h f)]; rfl
theorem chk_other (C R : Int) (l : List Step) : chk C R (l.map other) = chk C R l := by
  unfold chk; rw [chkSteps_other (mirror_flat _ _), List.length_map]
theorem afterZ_other (C R k : Int) (l : List Step) : afterZ C R (l.map other) k = afterZ C R l k := by
  unfold afterZ; rw [chk_other, List.length_map]
theorem whole_other (C R : Nat) (l : List Step) : Mirror (foldAll (flatS C R) l) (foldAll (flatS C R) (l.map other)) := mirror_all (mirror_flat C R)
theorem pileZ_other (C R c r : Int) (l : List Step) : pileZ C R (l.map other) (l.length : Int) c r = pileZ C R l (l.length : Int) c r := by
  have h := whole_other C.toNat R.toNat l
  have e : (l.map other).take l.length = l.map other := List.take_of_length_le (by simp)
  unfold pileZ
  simp only [afterZ_other, Int.toNat_natCast, List.take_length, e, h.1, h.2.1]
theorem pile_other (C R : Nat) (l : List Step) (c r : Nat) : (foldAll (flatS C R) ((l.map other).take l.length)).P c r = ((foldAll (flatS C R) (l.take l.length)).P c r).reverse := by
  rw [List.take_of_length_le (by simp), List.take_length]; exact (whole_other C R l).2.2 c r
end Go.Proofs.YtjcijogdcafloaaDoor
