/- The small layout that the laws take first. -/
import Derived.Test.YtjcijogdcafloaaPages
namespace Go.Proofs.Ytjcijogdcafloaa
open Go.RowKit
/-- The small layout that the laws fold first. -/
def onceL : List Step := [⟨0, 1, true⟩]
theorem good_once : Good 2 1 onceL := ⟨by omega, by omega, by omega, by omega, by omega, by decide, ⟨by decide, by decide, by decide, by decide⟩, trivial⟩
theorem whole_once : whole 2 1 onceL := ⟨by decide, by decide⟩
set_option maxHeartbeats 1000000 in
theorem once_any (w : World) : Calls Try.prog 14 #[] w fun e w' => ∃ v, e = .returned (.agg #[.int .i64 2, .int .i64 1, v]) ∧ Sv w' v onceL ∧ Below w.heap.size w w' := by
  go_enter Try.func14, Try.ntmps14
  go_wp2
  refine bodyPost_ret (v := .agg #[.int .i64 2, .int .i64 1, .slice (some ⟨w.heap.size + 1, 0, none⟩) 1 1]) (by simp [results, Try.results14, go_sem]) rfl ⟨_, rfl, ?_, ?_⟩
  · refine ⟨_, 1, rfl, Nat.le_refl _, by unfold maxLen; omega, fun _ => ⟨w.heap.size + 1, 0, rfl, trivial, by simp, fun k u hu => ?_⟩⟩
    have := news_new (w.alloc (.cells #[.int .i64 2, .int .i64 1, .slice (some ⟨w.heap.size + 1, 0, none⟩) 1 1] 24)) 92 [.int .i64 0, .int .i64 1, .bool true] (w.heap.size + 1) (by simp) k u (by simpa [scells, scell, onceL] using hu)
    rw [add_plain] at this
    exact this
  · exact ((Below.refl _ _).alloc (Nat.le_refl _) _).alloc (by simp) _
theorem end_once' : endPile 2 1 onceL = [⟨0, 0, true, false⟩, ⟨1, 0, false, false⟩] := by decide
theorem pages_once' : pagesOf 2 (turnOf (lastSide onceL)) (endPile 2 1 onceL) = [⟨true, 1, 0, 0⟩, ⟨false, 0, 0, 0⟩, ⟨false, 1, 0, 0⟩, ⟨true, 0, 0, 0⟩] := by rw [end_once']; rfl
end Go.Proofs.Ytjcijogdcafloaa
