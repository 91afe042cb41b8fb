/- The lines of the best division: where they begin and end. No program is in sight here. -/
import Derived.Test.YtajmdgkchleipaaDp2
namespace Go.Proofs.Ytajmdgkchleipaa
open Go.RowKit Para
def prevEnd (i : Nat) (C : List (Nat × Nat)) : Nat → Nat
  | 0 => i
  | t + 1 => (C.getD t (0, 0)).2
theorem prevEnd_cons (i : Nat) (c : Nat × Nat) (C : List (Nat × Nat)) (t : Nat) : prevEnd i (c :: C) (t + 1) = prevEnd c.2 C t := by
  cases t <;> simp [prevEnd]
theorem cuts_fact (s : Shape) (l : List Part) : ∀ f i, l.length ≤ i + f → i ≤ l.length → best s (l.drop i) ≠ none →
    (∀ t, t < (cuts s l f i).length → ((cuts s l f i).getD t (0, 0)).1 = prevEnd i (cuts s l f i) t ∧ ((cuts s l f i).getD t (0, 0)).1 < ((cuts s l f i).getD t (0, 0)).2 ∧ ((cuts s l f i).getD t (0, 0)).2 ≤ l.length ∧
      permitted s (l.drop ((cuts s l f i).getD t (0, 0)).1) (((cuts s l f i).getD t (0, 0)).2 - ((cuts s l f i).getD t (0, 0)).1) = true) ∧ prevEnd i (cuts s l f i) (cuts s l f i).length = l.length := by
  intro f
  induction f with
  | zero => intro i h1 h2 h3; simp [cuts, prevEnd]; omega
  | succ f ih =>
    intro i h1 h2 h3
    rcases Nat.lt_or_ge i l.length with hlt | hge
    · obtain ⟨⟨c, k⟩, hb⟩ := Option.ne_none_iff_exists'.1 h3
      obtain ⟨k1, k2, k3, b, k4, k5⟩ := best_some hlt hb
      rw [cuts_step hlt hb]
      obtain ⟨e1, e2⟩ := ih (i + k) (by omega) k2 (by rw [k4]; exact fun h => by cases h)
      refine ⟨fun t ht => ?_, by rw [List.length_cons, prevEnd_cons]; exact e2⟩
      cases t with
      | zero => simp only [List.getD_cons_zero, prevEnd]; exact ⟨trivial, by omega, k2, by rw [Nat.add_sub_cancel_left]; exact k3⟩
      | succ t =>
        rw [List.getD_cons_succ, prevEnd_cons]
        exact e1 t (by simpa using ht)
    · rw [cuts_end s l _ i hge]
      exact ⟨fun t ht => by simp at ht, by simp only [prevEnd, List.length_nil]; omega⟩
def startAt (L : List Ln) : Nat → Nat
  | 0 => 0
  | t + 1 => (lnAt L t).t
theorem lnAt_linesOf (s : Shape) (l : List Part) (t : Nat) (h : t < (linesOf s l).length) : lnAt (linesOf s l) t = lnOf s l ((cuts s l l.length 0).getD t (0, 0)) := by
  have h' : t < (cuts s l l.length 0).length := by simpa [linesOf] using h
  simp only [lnAt, linesOf, List.getD_eq_getElem?_getD, List.getElem?_map, List.getElem?_eq_getElem h', Option.map_some, Option.getD_some]
theorem startAt_linesOf (s : Shape) (l : List Part) (t : Nat) (h : t ≤ (linesOf s l).length) : startAt (linesOf s l) t = prevEnd 0 (cuts s l l.length 0) t := by
  cases t with
  | zero => rfl
  | succ t => simp only [startAt, prevEnd]; rw [lnAt_linesOf s l t (by omega)]; rfl
theorem lines_fact {s : Shape} {l : List Part} (hb : best s l ≠ none) :
    (∀ t, t < (linesOf s l).length → (lnAt (linesOf s l) t).f = startAt (linesOf s l) t ∧ (lnAt (linesOf s l) t).f < (lnAt (linesOf s l) t).t ∧ (lnAt (linesOf s l) t).t ≤ l.length ∧
      lnAt (linesOf s l) t = lnOf s l ((lnAt (linesOf s l) t).f, (lnAt (linesOf s l) t).t) ∧ permitted s (l.drop (lnAt (linesOf s l) t).f) ((lnAt (linesOf s l) t).t - (lnAt (linesOf s l) t).f) = true) ∧
    startAt (linesOf s l) (linesOf s l).length = l.length := by
  have hlen : (linesOf s l).length = (cuts s l l.length 0).length := by simp [linesOf]
  obtain ⟨e1, e2⟩ := cuts_fact s l l.length 0 (by omega) (by omega) (by rw [List.drop_zero]; exact hb)
  refine ⟨fun t ht => ?_, by rw [startAt_linesOf s l _ (Nat.le_refl _), hlen]; exact e2⟩
  obtain ⟨a1, a2, a3, a4⟩ := e1 t (by omega)
  rw [startAt_linesOf s l t (by omega), lnAt_linesOf s l t ht]
  exact ⟨a1, a2, a3, rfl, a4⟩
/-- A word ends before the next one begins. -/
theorem pt_append_left (a b : List Part) (i : Nat) (h : i < a.length) : pt (a ++ b) i = pt a i := by
  unfold pt; rw [List.getD_eq_getElem?_getD, List.getElem?_append_left h, List.getD_eq_getElem?_getD]
theorem pt_append_right (a b : List Part) (i : Nat) (h : a.length ≤ i) : pt (a ++ b) i = pt b (i - a.length) := by
  unfold pt; rw [List.getD_eq_getElem?_getD, List.getElem?_append_right h, List.getD_eq_getElem?_getD]
theorem pt_word (x : Wd) (i : Nat) (h : i < x.parts.length) : pt (wordParts x) i = partAt x i := by
  simp [pt, wordParts, partsTo, List.getD_eq_getElem?_getD, h]
theorem wordParts_length (x : Wd) : (wordParts x).length = x.parts.length := by simp [wordParts, partsTo]
theorem flat_first (ws : List Wd) (hok : ∀ x ∈ ws, 0 < x.parts.length) : (∀ i, i + 1 < (flatW ws).length → (pt (flatW ws) (i + 1)).first = (pt (flatW ws) i).last) ∧ (0 < (flatW ws).length → (pt (flatW ws) 0).first = true) := by
  induction ws with
  | nil => exact ⟨fun i h => by simp [flatW] at h, fun h => by simp [flatW] at h⟩
  | cons x ws ih =>
    have hx := hok x (by simp)
    obtain ⟨h1, h2⟩ := ih fun y hy => hok y (by simp [hy])
    have e : flatW (x :: ws) = wordParts x ++ flatW ws := by simp [flatW]
    rw [e]
    have hl := wordParts_length x
    constructor
    · intro i hi
      rw [List.length_append] at hi
      rcases Nat.lt_trichotomy (i + 1) x.parts.length with c | c | c
      · rw [pt_append_left _ _ _ (by omega), pt_append_left _ _ _ (by omega), pt_word x _ c, pt_word x _ (by omega)]
        simp [partAt]; omega
      · rw [pt_append_right _ _ _ (by omega), pt_append_left _ _ _ (by omega), pt_word x i (by omega), show i + 1 - (wordParts x).length = 0 by omega, h2 (by omega)]
        simp [partAt]; omega
      · rw [pt_append_right _ _ _ (by omega), pt_append_right _ _ _ (by omega), show i + 1 - (wordParts x).length = (i - (wordParts x).length) + 1 by omega]
        exact h1 _ (by omega)
    · intro _
      rw [pt_append_left _ _ _ (by omega), pt_word x 0 hx]; simp [partAt]
theorem gap_step (l : List Part) (f m : Nat) (hff : ∀ i, i + 1 < l.length → (pt l (i + 1)).first = (pt l i).last) (h : f + m + 1 < l.length) :
    (fixTo (l.drop f) (m + 1 + 1)).2 = (fixTo (l.drop f) (m + 1)).2 + (if (pt l (f + m)).last = true then 1 else 0) := by
  have e : (pt (l.drop f) (m + 1)).first = (pt l (f + m)).last := by rw [pt_drop, ← hff (f + m) h]; rfl
  rw [fixTo, e]
  split
  · rename_i h1; rw [if_pos h1.2]
  · rename_i h1
    have h2 : ¬ (pt l (f + m)).last = true := fun h2 => h1 ⟨by omega, h2⟩
    rw [if_neg h2]
    split <;> simp
end Go.Proofs.Ytajmdgkchleipaa
