/- Pages where there is no pile; the pages read cell by cell. -/
import Derived.Test.YtjcijogdcafloaaPages
namespace Go.Proofs.Ytjcijogdcafloaa
open Go.RowKit
def PagesErr (z : Int) (w : World) (e : Ending) (w' : World) : Prop := e = .returned (.tuple #[.slice none 0 0, .int .i64 z]) ∧ Below w.heap.size w w'
set_option maxHeartbeats 4000000 in
theorem pages_bad (C R : Int) (v : Value) (l : List Step) (w : World) (hI : Sv w v l) (hz : foldedZ C R l ≠ 0) :
    Calls Try.prog 33 #[.agg #[.int .i64 C, .int .i64 R, v]] w (PagesErr (foldedZ C R l) w) := by
  have HI := Lib.hid hI
  obtain ⟨Av, cv, ev⟩ := SlM.form HI.out
  have hFo : Hid (∀ w', Below w.heap.size w w' → Calls Try.prog 52 #[.agg #[.int .i64 C, .int .i64 R, v]] w' (FoldedErr (foldedZ C R l) w')) := fun w' hb => folded_bad C R v l w' (SlM.later HI.out hb) hz
  have HE : Hid (∀ e w', PagesErr (foldedZ C R l) w e w' = (e = .returned (.tuple #[.slice none 0 0, .int .i64 (foldedZ C R l)]) ∧ Below w.heap.size w w')) := fun _ _ => rfl
  generalize PagesErr (foldedZ C R l) w = Post at *
  generalize foldedZ C R l = z at *
  generalize l.length = n at *
  have hz1 : (z != 0) = true := by simpa using hz
  have hb0 := Lib.hid ((Below.refl w.heap.size w).alloc (Nat.le_refl _) (Obj.cells #[.int .i64 C, .int .i64 R, v] 24))
  subst ev
  clear hI hz
  go_enter Try.func33, Try.ntmps33
  go_wp2_with fail
  refine (hFo.out _ hb0.out).mono ?_; rintro e w1 ⟨rfl, hb1⟩
  have HBe := Lib.hid (hb0.out.trans (hb1.mono hb0.out.size))
  clear hb1
  go_wp2
  rw [HE.out]
  exact ⟨rfl, HBe.out⟩
/-- The cells of the pages. -/
def pgN (l : List Pg) (i : Nat) : Pg := l.getD i ⟨false, 0, 0, 0⟩
theorem pcells_at (l : List Pg) (i j : Nat) (hi : i < l.length) (hj : j < 4) : (pcells l)[i * 4 + j]? = (pcell (pgN l i))[j]? := by
  induction l generalizing i with
  | nil => simp at hi
  | cons p l ih =>
    cases i with
    | zero =>
      have : pgN (p :: l) 0 = p := rfl
      rw [this]
      simp only [pcells, List.flatMap_cons]
      rw [List.getElem?_append_left (by simp [pcell]; omega)]; simp
    | succ i =>
      have e : pgN (p :: l) (i + 1) = pgN l i := rfl
      rw [e, ← ih i (by simpa using hi)]
      simp only [pcells, List.flatMap_cons]
      rw [List.getElem?_append_right (by simp [pcell]; omega)]
      congr 1; simp [pcell]; omega
theorem pages_cells {w : World} {B : Nat} {v : Value} {ps : List Pg} (h : w.ownsRow B 86 4 v ps.length (pcells ps)) (hn : 0 < ps.length) : ∃ g cap, v = .slice (some ⟨g, 0, none⟩) ps.length cap ∧ g < w.heap.size ∧ ps.length ≤ cap ∧ B ≤ g ∧
    ∀ i, i < ps.length → w.cell? ⟨g, i * 4, none⟩ = some (.bool (pgN ps i).back) ∧ w.cell? ⟨g, i * 4 + 1, none⟩ = some (.int .i64 ((pgN ps i).col : Int)) ∧ w.cell? ⟨g, i * 4 + 2, none⟩ = some (.int .i64 ((pgN ps i).row : Int)) ∧ w.cell? ⟨g, i * 4 + 3, none⟩ = some (.int .i64 ((pgN ps i).turn : Int)) := by
  obtain ⟨g, cap, rfl, hB, hlt⟩ := h.form hn
  have hc : ∀ i j, i < ps.length → j < 4 → w.cell? ⟨g, i * 4 + j, none⟩ = (pcell (pgN ps i))[j]? := by
    intro i j hi hj
    rw [← pcells_at ps i j hi hj]
    exact h.cellAt (i * 4 + j) (by omega)
  exact ⟨g, cap, rfl, hlt, (SlM.caps (SlM.of_own h)).2.1, hB, fun i hi => ⟨hc i 0 hi (by omega), hc i 1 hi (by omega), hc i 2 hi (by omega), hc i 3 hi (by omega)⟩⟩
theorem pgN_pages (C t : Nat) (l : List Leaf) (i : Nat) (hi : i < l.length) : pgN (pagesOf C t l) (2 * i) = pgUp C t (lf l i) ∧ pgN (pagesOf C t l) (2 * i + 1) = pgDown C t (lf l i) := by
  obtain ⟨h1, h2⟩ := pagesOf_get C t l i hi
  unfold pgN
  rw [List.getD_eq_getElem?_getD, List.getD_eq_getElem?_getD, h1, h2, lf_eq l hi]
  exact ⟨rfl, rfl⟩
end Go.Proofs.Ytjcijogdcafloaa
