/- The library's Sort and Compact at rows of strings of the call's own. -/
import Derived.Test.YtpfkmjckjomeeaaDoorArcDist
import Derived.Test.YtpfkmjckjomeeaaDoorLaid2
import Derived.Sort.OwnSorted
import Derived.Shelf.Slices.In.SortNone
namespace Go.Proofs.YtpfkmjckjomeeaaDoor
open Go.RowKit Arc Go.Lib Go.Sort
/-- Strings as lists of bytes. -/
def strL (l : List (List UInt8)) : List Value := l.map encStr
theorem strs_strL (l : List ByteArray) : strs l = strL (l.map fun s => s.data.toList) := (map_encStr l).symm
theorem sort_strs {w : World} {base n : Nat} {v : Value} (l : List (List UInt8)) (h : w.ownsRow base 9 1 v n (strL l)) (hn : n ≤ 1000000) :
    Calls Tryd.prog 21 #[v] w fun e w' => e = .returned (.tuple #[]) ∧ w'.ownsRow base 9 1 v n (strL (srtL l)) ∧ w.grownBy w' v.ownBlock := by
  have hl : l.length = n := by have := h.1; simpa [strL] using this
  subst hl
  rcases h.2 with ⟨rfl, h1⟩ | ⟨g, cap, cur, rfl, hbase, hb, h1, h2, h3, h4⟩
  · have h0 : l = [] := by
      cases l with
      | nil => rfl
      | cons a r => simp at h1
    subst h0
    exact (Any.slices_Sort_string_none lays190 none 0 w).mono fun e w' ⟨a, b⟩ => ⟨a, by rw [b, show srtL [] = [] by simp [srtL]]; exact World.ownsRow_nil _ _ _ _, by rw [b]; exact World.grownBy.refl w _⟩
  · have hlt : g < w.heap.size := (Array.getElem?_eq_some_iff.1 hb).1
    have hv : Value.slice (some ⟨g, 0, none⟩) l.length cap ≠ .slice none 0 0 := by simp
    obtain ⟨g2, cap2, e2, _, _, _, _, _, hH⟩ := holds_of_ownsRow (enc := encStr) h hv
    injection e2 with e3 _ _
    injection e3 with e3
    injection e3 with e3
    subst e3
    refine (slices_Sort_string g 0 cap l w hH hlt (by omega)).mono ?_
    rintro e w' ⟨rfl, nn, os, rfl⟩
    exact ⟨rfl, ownsRow_sorted (ss := l) (List.length_mergeSort l) hbase hb h1 h2 h3, grownBy_sorted _⟩
theorem compact_strs {w : World} {base n : Nat} {v : Value} (l : List (List UInt8)) (h : w.ownsRow base 9 1 v n (strL l)) (hn : n ≤ 1000000) :
    Calls Tryd.prog 22 #[v] w fun e w' => ∃ v', e = .returned v' ∧ w'.ownsRow base 9 1 v' (compact l).length (strL (compact l)) ∧ w.grownBy w' v.ownBlock := by
  have hl : l.length = n := by have := h.1; simpa [strL] using this
  subst hl
  rcases h.2 with ⟨rfl, h1⟩ | ⟨g, cap, cur, rfl, hbase, hb, h1, h2, h3, h4⟩
  · have h0 : l = [] := by
      cases l with
      | nil => rfl
      | cons a r => simp at h1
    subst h0
    exact (slices_Compact_string_empty none 0 w).mono fun e w' ⟨a, b⟩ => ⟨_, a, by rw [b]; exact World.ownsRow_nil _ _ _ _, by rw [b]; exact World.grownBy.refl w _⟩
  · have hv : Value.slice (some ⟨g, 0, none⟩) l.length cap ≠ .slice none 0 0 := by simp
    obtain ⟨g2, cap2, e2, _, _, _, _, _, hH⟩ := holds_of_ownsRow (enc := encStr) h hv
    injection e2 with e3 _ _
    injection e3 with e3
    injection e3 with e3
    subst e3
    refine (slices_Compact_string g 0 cap l w hH (by omega) h1).mono ?_
    rintro e w' ⟨rfl, q, rfl⟩
    have hcl := compact_length_le l
    have hr := ownsRow_putRow (q := q) (k := (compact l).length) (ys := compact l ++ List.replicate (l.length - (compact l).length) []) h (by simp; omega) hcl
    rw [List.take_left'] at hr
    · exact ⟨_, rfl, hr, grown_putRow⟩
    · rfl
end Go.Proofs.YtpfkmjckjomeeaaDoor
