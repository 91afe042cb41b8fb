/- The library's sort, clone and compact at ints, told in the words of rows of the call's own. -/
import Derived.Test.YtefkglmdkjkbiaaDoorSortLaid
import Derived.Test.YtefkglmdkjkbiaaDoorFntMem
import Derived.Sort.OwnSortedInts
import Derived.Shelf.Slices.In.SortNone
namespace Go.Proofs.YtefkglmdkjkbiaaDoor
open Go.RowKit Go.Sort
theorem own_prefix {base g m n cap : Nat} {e : TypeId} {xs ys : List Value} {w : World} (h : w.ownsRow base e 1 (.slice (some ⟨g, 0, none⟩) n cap) n (xs ++ ys)) (hm : xs.length = m) : w.ownsRow base e 1 (.slice (some ⟨g, 0, none⟩) m cap) m xs := by
  obtain ⟨hl, h⟩ := h
  rcases h with ⟨h, _⟩ | ⟨g', cap', cur, hv, hb, hh, h1, h2, h3, h4⟩
  · cases h
  · injection hv with e1 _ e2
    injection e1 with e1
    injection e1 with e1
    subst e1; subst e2
    have hle : m ≤ n := by rw [List.length_append] at hl; omega
    refine ⟨by omega, .inr ⟨g, cap, cur, rfl, hb, hh, by omega, h2, h3, ?_⟩⟩
    have := congrArg (List.take m) h4
    rw [List.take_take, Nat.min_eq_left (by omega), ← hm, List.take_left] at this
    rw [Nat.mul_one, ← hm]; exact this
def SortPost (base : Nat) (v : Value) (n : Nat) (ts : List Int) (w : World) (e : Ending) (w' : World) : Prop :=
  e = .returned (.tuple #[]) ∧ w'.ownsRow base 3 1 v n (ints ts) ∧ w.grownBy w' v.ownBlock
theorem sort_own (base : Nat) (v : Value) (zs : List Int) (n : Nat) (w : World) (h : w.ownsRow base 3 1 v n (ints zs)) (h0 : 0 < n) (hn : n ≤ 1000000) :
    Calls Tryd.prog 47 #[v] w (SortPost base v n (zs.mergeSort fun x y => decide (x ≤ y)) w) := by
  have hl : zs.length = n := by have := h.1; rw [ints_length] at this; omega
  subst hl
  rcases h.2 with ⟨_, h1⟩ | ⟨g, cap, cur, rfl, hbase, hb, h1, h2, h3, h4⟩
  · omega
  · have hH : Holds (Value.int .i64) w g 0 zs.toArray := holds_of_blockI hb (by rw [Nat.mul_one] at h4; exact h4)
    have hlt : g < w.heap.size := (Array.getElem?_eq_some_iff.1 hb).1
    refine (slices_Sort_int g 0 cap zs w hH hlt (by omega)).mono ?_
    rintro e w' ⟨rfl, nn, os, rfl⟩
    refine ⟨rfl, ?_, ?_⟩
    · exact ownsRow_sortedI (ss := zs) (List.length_mergeSort zs) hbase hb h1 h2 h3
    · exact grownBy_sortedI _
/-- A copy of the call's own. -/
def ClonePost (n : Nat) (zs : List Int) (w : World) (e : Ending) (w' : World) : Prop := ∃ v, e = .returned v ∧ w'.ownsRow w.heap.size 3 1 v n (ints zs) ∧ Below w.heap.size w w'
theorem clone_own (v : Value) (zs : List Int) (w : World) (ok : Nat → Prop) (h : Sl w ok v (ints zs)) (hn : zs.length ≤ 1000000) :
    Calls Tryd.prog 46 #[v] w (ClonePost zs.length zs w) := by
  rcases Nat.eq_zero_or_pos zs.length with h0 | h0
  · have hz : zs = [] := List.eq_nil_of_length_eq_zero h0
    subst hz
    obtain ⟨A, cap, rfl⟩ := h.form
    rcases A with _ | a
    · exact (slices_Clone_int_nil _ _ w).mono fun e w' ⟨h1, h2⟩ => ⟨_, h1, ⟨rfl, .inl ⟨rfl, rfl⟩⟩, by rw [h2]; exact Below.refl _ _⟩
    · exact (slices_Clone_int_zero a _ w).mono fun e w' ⟨v', h1, h2, _, h3⟩ => ⟨v', h1, h2, h3⟩
  · obtain ⟨b, off, cap, rfl, _, hb, hc⟩ := h.plain (by rw [ints_length]; exact h0)
    rw [ints_length]
    refine (slices_Clone_int b off zs.length cap zs w (Nat.le_refl _) (by omega) (fun j hj => hc j _ (ints_get hj))).mono fun e w' ⟨v', h1, h2, _, h3⟩ => ⟨v', h1, ?_, h3⟩
    rw [List.take_of_length_le (Nat.le_refl _)] at h2
    exact h2
theorem compact_le (zs : List Int) : (Lib.compact zs).length ≤ zs.length := by
  unfold Lib.compact Lib.compactUpTo
  rw [List.length_map]
  exact Nat.le_trans (List.length_filter_le _ _) (by simp)
/-- Neighbours that are equal go; the row stays the call's own. -/
theorem compact_own (base : Nat) (v : Value) (zs : List Int) (n : Nat) (w : World) (h : w.ownsRow base 3 1 v n (ints zs)) (h0 : 0 < n) (hn : n ≤ 1000000) :
    Calls Tryd.prog 49 #[v] w fun e w' => ∃ v', e = .returned v' ∧ v'.ownBlock = v.ownBlock ∧ w'.ownsRow base 3 1 v' (Lib.compact zs).length (ints (Lib.compact zs)) ∧ w.grownBy w' v.ownBlock := by
  have hl : zs.length = n := by have := h.1; rw [ints_length] at this; omega
  subst hl
  rcases h.2 with ⟨_, h1⟩ | ⟨g, cap, cur, rfl, hbase, hb, h1, h2, h3, h4⟩
  · omega
  · have hH : Holds (Value.int .i64) w g 0 zs.toArray := holds_of_blockI hb (by rw [Nat.mul_one] at h4; exact h4)
    refine (slices_Compact_int g 0 cap zs w hH (by omega) h1).mono ?_
    rintro e w' ⟨rfl, q, rfl⟩
    refine ⟨_, rfl, rfl, ?_, ?_⟩
    · have hle := compact_le zs
      have := ownsRow_sortedI (w := w) (n := q) (os := #[]) (ss := zs) (ts := Lib.compact zs ++ List.replicate (zs.length - (Lib.compact zs).length) 0) (by simp; omega) hbase hb h1 h2 h3
      rw [grow_empty] at this
      refine own_prefix (ys := (List.replicate (zs.length - (Lib.compact zs).length) 0).map (Value.int .i64)) (n := zs.length) ?_ (ints_length _)
      rw [List.map_append] at this
      exact this
    · have := grownBy_sortedI (w := w) (g := g) (n := q) (os := #[]) (Lib.compact zs ++ List.replicate (zs.length - (Lib.compact zs).length) 0).toArray
      rw [grow_empty] at this
      exact this
theorem own_nothing {base n : Nat} {e : TypeId} {v : Value} {xs : List Value} {w : World} (h : w.ownsRow base e 1 v n xs) (h0 : n = 0) : ∃ A c, v = .slice A 0 c := by
  subst h0
  rcases h.2 with ⟨rfl, _⟩ | ⟨g, cap, cur, rfl, _⟩
  · exact ⟨_, _, rfl⟩
  · exact ⟨_, _, rfl⟩
theorem sort_any (base : Nat) (v : Value) (zs : List Int) (w : World) (h : w.ownsRow base 3 1 v zs.length (ints zs)) (hn : zs.length ≤ 1000000) :
    Calls Tryd.prog 47 #[v] w (SortPost base v zs.length (zs.mergeSort fun x y => decide (x ≤ y)) w) := by
  rcases Nat.eq_zero_or_pos zs.length with h0 | h0
  · obtain ⟨A, c, rfl⟩ := own_nothing h h0
    have hz : zs = [] := List.eq_nil_of_length_eq_zero h0
    subst hz
    refine (Go.Proofs.Any.slices_Sort_int_none lays189 A c w).mono ?_
    rintro e w' ⟨rfl, rfl⟩
    exact ⟨rfl, by simpa using h, World.grownBy.refl _ _⟩
  · exact sort_own base v zs _ w h h0 hn
theorem compact_any (base : Nat) (v : Value) (zs : List Int) (w : World) (h : w.ownsRow base 3 1 v zs.length (ints zs)) (hn : zs.length ≤ 1000000) :
    Calls Tryd.prog 49 #[v] w fun e w' => ∃ v', e = .returned v' ∧ v'.ownBlock = v.ownBlock ∧ w'.ownsRow base 3 1 v' (Lib.compact zs).length (ints (Lib.compact zs)) ∧ w.grownBy w' v.ownBlock := by
  rcases Nat.eq_zero_or_pos zs.length with h0 | h0
  · obtain ⟨A, c, rfl⟩ := own_nothing h h0
    have hz : zs = [] := List.eq_nil_of_length_eq_zero h0
    subst hz
    refine (slices_Compact_int_empty A c w).mono ?_
    rintro e w' ⟨rfl, rfl⟩
    exact ⟨_, rfl, rfl, h, World.grownBy.refl _ _⟩
  · exact compact_own base v zs _ w h h0 hn
/-! What is left of a sorted list. -/
theorem compact_facts (zs : List Int) (hs : zs.Pairwise (· ≤ ·)) : ∀ m, m ≤ zs.length → (∀ x, x ∈ Lib.compactUpTo zs.toArray m ↔ ∃ j, j < m ∧ zs.toArray[j]! = x) ∧ (Lib.compactUpTo zs.toArray m).Pairwise (· < ·)
  | 0, _ => by
    have : Lib.compactUpTo zs.toArray 0 = [] := rfl
    rw [this]
    exact ⟨fun x => ⟨fun h => absurd h (by simp), fun ⟨j, h, _⟩ => absurd h (by omega)⟩, List.Pairwise.nil⟩
  | m + 1, hm => by
    obtain ⟨a, b⟩ := compact_facts zs hs m (by omega)
    have hle : ∀ j k, j < k → k < zs.length → zs.toArray[j]! ≤ zs.toArray[k]! := fun j k h1 h2 => by
      have := List.pairwise_iff_getElem.1 hs j k (by omega) h2 h1
      rw [getElem!_pos zs.toArray j (by simp; omega), getElem!_pos zs.toArray k (by simpa using h2)]
      simpa using this
    rw [Lib.compactUpTo_succ]
    by_cases hk : Lib.keeps zs.toArray m = true
    · rw [if_pos hk]
      refine ⟨fun x => ?_, ?_⟩
      · rw [List.mem_append, a x, List.mem_singleton]
        constructor
        · rintro (⟨j, h1, h2⟩ | rfl)
          · exact ⟨j, by omega, h2⟩
          · exact ⟨m, by omega, rfl⟩
        · rintro ⟨j, h1, h2⟩
          rcases Nat.lt_succ_iff_lt_or_eq.1 h1 with h3 | rfl
          · exact Or.inl ⟨j, h3, h2⟩
          · exact Or.inr h2.symm
      · rw [List.pairwise_append]
        refine ⟨b, List.pairwise_singleton _ _, fun x hx y hy => ?_⟩
        rw [List.mem_singleton] at hy
        subst hy
        obtain ⟨j, h1, rfl⟩ := (a x).1 hx
        unfold Lib.keeps at hk
        simp only [decide_eq_true_eq] at hk
        rcases hk with h2 | h2
        · omega
        · have h3 := hle (m - 1) m (by omega) (by omega)
          have h4 : zs.toArray[j]! ≤ zs.toArray[m - 1]! := by
            rcases Nat.lt_or_ge j (m - 1) with h5 | h5
            · exact hle _ _ h5 (by omega)
            · rw [show j = m - 1 by omega]; exact Int.le_refl _
          omega
    · rw [if_neg hk, List.append_nil]
      refine ⟨fun x => ?_, b⟩
      rw [a x]
      unfold Lib.keeps at hk
      simp only [decide_eq_true_eq, not_or, Decidable.not_not] at hk
      constructor
      · rintro ⟨j, h1, h2⟩; exact ⟨j, by omega, h2⟩
      · rintro ⟨j, h1, h2⟩
        rcases Nat.lt_succ_iff_lt_or_eq.1 h1 with h3 | rfl
        · exact ⟨j, h3, h2⟩
        · exact ⟨j - 1, by omega, by rw [← hk.2]; exact h2⟩
theorem compact_inc (zs : List Int) (hs : zs.Pairwise (· ≤ ·)) : (Lib.compact zs).Pairwise (· < ·) ∧ ∀ x, x ∈ Lib.compact zs ↔ x ∈ zs := by
  obtain ⟨a, b⟩ := compact_facts zs hs zs.length (Nat.le_refl _)
  refine ⟨b, fun x => (a x).trans ?_⟩
  constructor
  · rintro ⟨j, h1, rfl⟩
    rw [getElem!_pos zs.toArray j (by simpa using h1)]
    simp
  · intro h
    obtain ⟨j, h1, h2⟩ := List.getElem_of_mem h
    exact ⟨j, h1, by rw [getElem!_pos zs.toArray j (by simpa using h1)]; simpa using h2⟩
/-- The codes, sorted and each once. -/
def sorted (zs : List Int) : List Int := Lib.compact (zs.mergeSort fun x y => decide (x ≤ y))
theorem sorted_facts (zs : List Int) : (sorted zs).Pairwise (· < ·) ∧ ∀ x, x ∈ sorted zs ↔ x ∈ zs := by
  have hp : (zs.mergeSort fun x y => decide (x ≤ y)).Pairwise (· ≤ ·) := by
    have := List.pairwise_mergeSort (le := fun x y : Int => decide (x ≤ y)) (fun a b c h1 h2 => by simp at *; omega) (fun a b => by simp; omega) zs
    exact this.imp fun h => by simpa using h
  obtain ⟨a, b⟩ := compact_inc _ hp
  exact ⟨a, fun x => (b x).trans (List.mem_mergeSort)⟩
end Go.Proofs.YtefkglmdkjkbiaaDoor
