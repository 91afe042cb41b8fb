/- The plain law of Faults: what is missing, what came twice, what moved. No program is in sight here. -/
import Derived.Test.YtcnoehaemankiaaFaultsFn
namespace Go.Proofs.Ytcnoehaemankiaa
open Go.RowKit
/-- Which of the first m numbers do not occur. -/
def missTo (o : List Int) (m : Nat) : List Int := ((List.range m).filter fun (k : Nat) => !decide ((k : Int) ∈ o)).map Int.ofNat
theorem missTo_succ (o : List Int) (m : Nat) : missTo o (m + 1) = missTo o m ++ (if (m : Int) ∈ o then [] else [(m : Int)]) := by
  unfold missTo
  rw [List.range_succ, List.filter_append, List.map_append]
  congr 1
  by_cases h : (m : Int) ∈ o <;> simp [h]
def Dup (o : List Int) (K : List Nat) (i : Nat) : Prop := ∃ a, a < K.length ∧ at_ o (kat K a) = at_ o i
open Classical in
noncomputable def extraTo (o : List Int) (K : List Nat) (m : Nat) : List Int := ((List.range m).filter fun i => decide (¬ i ∈ K ∧ Dup o K i)).map Int.ofNat
open Classical in
noncomputable def movedTo (o : List Int) (K : List Nat) (m : Nat) : List Int := ((List.range m).filter fun i => decide (¬ i ∈ K ∧ ¬ Dup o K i)).map Int.ofNat
theorem extraTo_succ_no (o : List Int) (K : List Nat) (m : Nat) (h : ¬ (¬ m ∈ K ∧ Dup o K m)) : extraTo o K (m + 1) = extraTo o K m := by
  unfold extraTo; rw [List.range_succ, List.filter_append]; simp [h]
theorem extraTo_succ_yes (o : List Int) (K : List Nat) (m : Nat) (h : ¬ m ∈ K ∧ Dup o K m) : extraTo o K (m + 1) = extraTo o K m ++ [(m : Int)] := by
  unfold extraTo; rw [List.range_succ, List.filter_append]; simp [h]
theorem movedTo_succ_no (o : List Int) (K : List Nat) (m : Nat) (h : ¬ (¬ m ∈ K ∧ ¬ Dup o K m)) : movedTo o K (m + 1) = movedTo o K m := by
  unfold movedTo; rw [List.range_succ, List.filter_append]; simp [h]
theorem movedTo_succ_yes (o : List Int) (K : List Nat) (m : Nat) (h : ¬ m ∈ K ∧ ¬ Dup o K m) : movedTo o K (m + 1) = movedTo o K m ++ [(m : Int)] := by
  unfold movedTo; rw [List.range_succ, List.filter_append]; simp [h]
theorem extraTo_len (o : List Int) (K : List Nat) (m : Nat) : (extraTo o K m).length ≤ m := by
  unfold extraTo; rw [List.length_map]; exact Nat.le_trans (List.length_filter_le _ _) (by simp)
theorem movedTo_len (o : List Int) (K : List Nat) (m : Nat) : (movedTo o K m).length ≤ m := by
  unfold movedTo; rw [List.length_map]; exact Nat.le_trans (List.length_filter_le _ _) (by simp)
theorem missTo_len (o : List Int) (m : Nat) : (missTo o m).length ≤ m := by
  unfold missTo; rw [List.length_map]; exact Nat.le_trans (List.length_filter_le _ _) (by simp)
theorem mem_nats_ (K : List Nat) (i : Nat) : (i : Int) ∈ nats_ K ↔ i ∈ K := by
  unfold nats_
  rw [List.mem_map]
  constructor
  · rintro ⟨a, h1, h2⟩
    have h2 : (a : Int) = (i : Int) := h2
    have : a = i := by omega
    rw [← this]; exact h1
  · intro h; exact ⟨i, h, rfl⟩
/-- The row of marks after some of the order was seen. -/
def marks (l : List Int) (n : Nat) : List Value := (List.range n).map fun (k : Nat) => Value.bool (decide ((k : Int) ∈ l))
theorem marks_nil (n : Nat) : marks [] n = List.replicate n (Value.bool false) := by
  unfold marks
  apply List.ext_getElem
  · simp
  · intro i h1 h2; simp
theorem marks_push (l : List Int) (n k : Nat) : marks (l ++ [(k : Int)]) n = (marks l n).set k (Value.bool true) := by
  unfold marks
  apply List.ext_getElem
  · simp
  · intro i h1 h2
    simp only [List.getElem_map, List.getElem_range, List.getElem_set]
    by_cases e : k = i
    · subst e; simp
    · rw [if_neg e]
      have : ((i : Int) ∈ l ++ [(k : Int)]) ↔ (i : Int) ∈ l := by
        rw [List.mem_append]; constructor
        · rintro (h | h)
          · exact h
          · have : (i : Int) = k := by simpa using h
            omega
        · exact .inl
      simp only [this]
theorem marks_at (l : List Int) (n k : Nat) (h : k < n) : (marks l n)[k]? = some (Value.bool (decide ((k : Int) ∈ l))) := by
  unfold marks; simp [h]
theorem marks_len (l : List Int) (n : Nat) : (marks l n).length = n := by simp [marks]
/-- Nothing is refused. -/
structure FOk (o : List Int) (n : Int) : Prop where
  n1 : 1 ≤ n
  n2 : n ≤ 64
  len : o.length ≤ 64
  rng : ∀ i, i < o.length → 0 ≤ at_ o i ∧ at_ o i < n
end Go.Proofs.Ytcnoehaemankiaa
