/- Small walks of the archive: Index, BinarySearch, Clone at strings; plain. -/
import Derived.Test.YtpfkmjckjomeeaaDoorArcAM
import Derived.Test.YtpfkmjckjomeeaaDoorLaid
namespace Go.Proofs.YtpfkmjckjomeeaaDoor
open Go.RowKit Arc
theorem eStr : ElemT Tryd.prog 30 9 (.string ⟨#[]⟩) 16 := ElemT.mk_ Tryd.underlying30 (by kernel_rfl) rfl
theorem eU32 : ElemT Tryd.prog 60 63 (.int .u32 0) 4 := ElemT.mk_ Tryd.underlying60 (by kernel_rfl) rfl
theorem strs_get (l : List ByteArray) (j : Nat) (h : j < l.length) : (strs l)[j]? = some (.string (l.getD j ByteArray.empty)) := by
  unfold strs
  rw [List.getElem?_map, List.getElem?_eq_getElem h, List.getD_eq_getElem?_getD, List.getElem?_eq_getElem h]; rfl
theorem own_cells {w : World} {base n : Nat} {t : TypeId} {v : Value} {xs : List Value} (h : w.ownsRow base t 1 v n xs) (hn : 0 < n) : ∃ g cap, v = .slice (some ⟨g, 0, none⟩) n cap ∧ base ≤ g ∧ g < w.heap.size ∧ n ≤ cap ∧ cap ≤ maxLen ∧ ∀ j u, xs[j]? = some u → w.cell? ⟨g, j, none⟩ = some u := by
  have hl := own_lt h
  rcases h.2 with ⟨rfl, rfl⟩ | ⟨g, cap, cur, rfl, hg, hh, hn2, hc, hsz, hx⟩
  · omega
  · refine ⟨g, cap, rfl, hg, (hl g (by simp [Value.ownBlock])).2, hn2, hc, fun j u hu => ?_⟩
    rw [cell_of_row w g j cur t (0, 0) hh]
    have hj : j < n := by have := (List.getElem?_eq_some_iff.1 hu).1; have e := h.1; omega
    rw [← hx, List.getElem?_take_of_lt (by omega)] at hu
    simpa using hu
theorem index_any {w : World} {base : Nat} {v : Value} (l : List ByteArray) (x : ByteArray) (h : w.ownsRow base 9 1 v l.length (strs l)) :
    Calls Tryd.prog 37 #[v, .string x] w fun e w' => e = .returned (.int .i64 (Lib.idxOfS l x)) ∧ w = w' := by
  by_cases h0 : l.length = 0
  · obtain ⟨A, c, rfl⟩ := own_form h
    have hl := List.eq_nil_of_length_eq_zero h0
    subst hl
    exact (slices_Index_string_empty A c x w).mono fun e w' ⟨a, b⟩ => ⟨a, b.symm⟩
  · obtain ⟨g, cap, rfl, _, _, hn, hc, hcell⟩ := own_cells h (by omega)
    unfold maxLen at hc
    have := slices_Index_string g 0 l.length cap l x w (Nat.le_refl _) (by omega) fun j hj => by rw [Nat.zero_add]; exact hcell j _ (strs_get l j hj)
    rw [List.take_length] at this
    exact this.mono fun e w' ⟨a, b⟩ => ⟨a, b.symm⟩
/-- BinarySearch where the first k elements are less, and no other one is. -/
theorem search_any {w : World} {base : Nat} {v : Value} (l : List ByteArray) (x : ByteArray) (h : w.ownsRow base 9 1 v l.length (strs l)) (hl : l.length ≤ 1000000) (k : Nat) (hk : k ≤ l.length) (h1 : ∀ j, j < k → less (l.getD j ByteArray.empty) x = true) (h2 : ∀ j, k ≤ j → j < l.length → less (l.getD j ByteArray.empty) x = false) :
    Calls Tryd.prog 24 #[v, .string x] w fun e w' => e = .returned (.tuple #[.int .i64 (k : Int), .bool (decide (k < l.length ∧ l.getD k ByteArray.empty = x))]) ∧ ∃ q, w' = w.drewN q := by
  by_cases h0 : l.length = 0
  · obtain ⟨A, c, rfl⟩ := own_form h
    have hl := List.eq_nil_of_length_eq_zero h0
    subst hl
    obtain rfl : k = 0 := by simpa using hk
    refine (Any2.slices_BinarySearch_string_empty laysNm226 A c x w).mono fun e w' ⟨a, b⟩ => ⟨?_, 0, b⟩
    rw [a]; simp
  · obtain ⟨g, cap, rfl, _, _, hn, hc, hcell⟩ := own_cells h (by omega)
    have hb : Lib.bsGo (fun t => Op.bytesLess ((fun j => if j < l.length then l.getD j ByteArray.empty else x) t).toList x.toList) l.length 0 l.length = k := by
      refine Lib.bsGo_spec _ k (fun t ht => ?_) (fun t ht => ?_) _ _ _ (by omega) (by omega) hk
      · dsimp only
        rw [if_pos (by omega), Lib.toList_data, Lib.toList_data]; exact h1 t ht
      · dsimp only
        by_cases htl : t < l.length
        · rw [if_pos htl, Lib.toList_data, Lib.toList_data]; exact h2 t ht htl
        · rw [if_neg htl]
          have irr : ∀ l : List UInt8, Op.bytesLess l l = false := fun l => by
            induction l with
            | nil => rfl
            | cons a r ih => simp [Op.bytesLess, ih]
          exact irr _
    have := Any2.slices_BinarySearch_string laysNm226 g 0 l.length cap (fun j => if j < l.length then l.getD j ByteArray.empty else x) x w (by omega) fun j hj => by
      rw [if_pos hj, Nat.zero_add]; exact hcell j _ (strs_get l j hj)
    rw [hb] at this
    refine this.mono fun e w' ⟨a, b⟩ => ⟨?_, b⟩
    rw [a]
    congr 3
    by_cases hkl : k < l.length
    · simp [hkl]
    · simp [hkl]
theorem clone_str (s : ByteArray) (w : World) (hs : s.size ≤ 281474976710656) : Calls Tryd.prog 38 #[.string s] w fun e w' => e = .returned (.string s) ∧ Below w.heap.size w w' := by
  have H := Lib.hid (stringslite_Clone s w hs)
  go_enter Tryd.func38, Tryd.ntmps38
  go_wp2_with (go_at_call 53; refine H.out.mono ?_; rintro e w' ⟨rfl, hb⟩)
  go_ret
  exact ⟨rfl, hb⟩
theorem clone_strs {w : World} {base : Nat} {v : Value} (l : List ByteArray) (h : w.ownsRow base 9 1 v l.length (strs l)) (hl : l.length ≤ 1000000) :
    Calls Tryd.prog 27 #[v] w fun e w' => ∃ v', e = .returned v' ∧ w'.ownsRow w.heap.size 9 1 v' l.length (strs l) ∧ Below w.heap.size w w' := by
  by_cases h0 : l.length = 0
  · have hl := List.eq_nil_of_length_eq_zero h0
    subst hl
    obtain ⟨A, c, rfl⟩ := own_form h
    cases A with
    | none => exact (slices_Clone_string_nil _ c w).mono fun e w' ⟨a, b⟩ => ⟨_, a, World.ownsRow_nil _ _ _ _, by rw [b]; exact Below.refl _ _⟩
    | some ad => exact (slices_Clone_string_zero ad c w).mono fun e w' ⟨v', a, b, _, c⟩ => ⟨v', a, b, c⟩
  · obtain ⟨g, cap, rfl, _, _, hn, hc, hcell⟩ := own_cells h (by omega)
    have := slices_Clone_string g 0 l.length cap l w (Nat.le_refl _) (by omega) fun j hj => by rw [Nat.zero_add]; exact hcell j _ (strs_get l j hj)
    rw [List.take_length] at this
    exact this.mono fun e w' ⟨v', a, b, _, c⟩ => ⟨v', a, b, c⟩
end Go.Proofs.YtpfkmjckjomeeaaDoor
