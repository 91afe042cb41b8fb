/- The different pieces: sorted, compacted, counted. No program is in sight here. -/
import Derived.Test.YtpfkmjckjomeeaaDoorArcAgree
import Derived.Lib.SlicesCompact
namespace Go.Proofs.YtpfkmjckjomeeaaDoor
namespace Arc
open Go.Lib
def srtL (l : List (List UInt8)) : List (List UInt8) := l.mergeSort fun x y => decide (x ≤ y)
theorem srtL_pairwise (l : List (List UInt8)) : (srtL l).Pairwise fun a b => a ≤ b := by
  have := List.pairwise_mergeSort (le := fun x y : List UInt8 => decide (x ≤ y)) (fun a b c h1 h2 => by
    simp only [decide_eq_true_eq] at h1 h2 ⊢; exact List.le_trans h1 h2) (fun a b => by
    simp only [Bool.or_eq_true, decide_eq_true_eq]; exact List.le_total a b) l
  exact this.imp fun h => by simpa using h
theorem compact_mem (zs : List (List UInt8)) (x : List UInt8) : x ∈ compact zs ↔ x ∈ zs := by
  unfold compact compactUpTo
  rw [List.mem_map]
  constructor
  · rintro ⟨j, hj, rfl⟩
    have hj2 : j < zs.length := List.mem_range.1 (List.mem_filter.1 hj).1
    rw [List.getElem!_toArray, getElem!_pos zs j hj2]
    exact List.getElem_mem hj2
  · intro hx
    have key : ∀ k (j : Nat) (h : j < zs.length), j ≤ k → zs[j] = x → ∃ a, a ∈ (List.range zs.length).filter (keeps zs.toArray) ∧ zs.toArray[a]! = x := by
      intro k
      induction k with
      | zero =>
        intro j h hjk e
        obtain rfl : j = 0 := by omega
        refine ⟨0, List.mem_filter.2 ⟨List.mem_range.2 h, by simp [keeps]⟩, ?_⟩
        rw [List.getElem!_toArray, getElem!_pos zs 0 h]; exact e
      | succ k ih =>
        intro j h hjk e
        by_cases hk : keeps zs.toArray j = true
        · exact ⟨j, List.mem_filter.2 ⟨List.mem_range.2 h, hk⟩, by rw [List.getElem!_toArray, getElem!_pos zs j h]; exact e⟩
        · have hj0 : j ≠ 0 := fun e => hk (by rw [e]; simp [keeps])
          have he : zs.toArray[j]! = zs.toArray[j - 1]! := by
            cases hd : decide (zs.toArray[j]! = zs.toArray[j - 1]!) with
            | true => exact of_decide_eq_true hd
            | false => exact absurd (keeps_pos (of_decide_eq_false hd)) hk
          rw [List.getElem!_toArray, List.getElem!_toArray, getElem!_pos zs j h, getElem!_pos zs (j - 1) (by omega)] at he
          exact ih (j - 1) (by omega) (by omega) (by rw [← he]; exact e)
    obtain ⟨j, hj, e⟩ := List.getElem_of_mem hx
    exact key j j hj (Nat.le_refl _) e
theorem compact_nodup (zs : List (List UInt8)) (hs : zs.Pairwise fun a b => a ≤ b) : (compact zs).Nodup := by
  unfold compact compactUpTo
  refine List.pairwise_map.2 ?_
  have hr : ((List.range zs.length).filter (keeps zs.toArray)).Pairwise (· < ·) := List.Pairwise.filter _ List.pairwise_lt_range
  refine List.Pairwise.imp_of_mem (fun {a b} ha hb hab e => ?_) hr
  have hb1 := List.mem_range.1 (List.mem_filter.1 hb).1
  have hb2 := (List.mem_filter.1 hb).2
  rw [List.getElem!_toArray, List.getElem!_toArray, getElem!_pos zs a (by omega), getElem!_pos zs b hb1] at e
  have hle : ∀ (i j : Nat) (hi : i < zs.length) (hj : j < zs.length), i ≤ j → zs[i] ≤ zs[j] := fun i j hi hj hij => by
    rcases Nat.lt_or_ge i j with h | h
    · exact List.pairwise_iff_getElem.1 hs i j hi hj h
    · obtain rfl : i = j := by omega
      exact List.le_refl _
  have h1 := hle a (b - 1) (by omega) (by omega) (by omega)
  have h2 := hle (b - 1) b (by omega) hb1 (by omega)
  rw [e] at h1
  have h3 := List.le_antisymm h1 h2
  have h4 : keeps zs.toArray b = false := keeps_neg (by omega) (by
    rw [List.getElem!_toArray, List.getElem!_toArray, getElem!_pos zs b hb1, getElem!_pos zs (b - 1) (by omega)]; exact h3)
  rw [h4] at hb2; cases hb2
/-- The different ones of a list, sorted. -/
def distinct (ps : List ByteArray) : List (List UInt8) := compact (srtL (ps.map fun s => s.data.toList))
theorem distinct_perm {p : Pcs} (h : p.Ok) {ps : List ByteArray} (hm : ∀ x, x ∈ p.all ↔ x ∈ ps) : (distinct ps).Perm (p.all.map fun s => s.data.toList) := by
  have inj : ∀ a b : ByteArray, a.data.toList = b.data.toList → a = b := fun a b e => by
    cases a with | mk a => cases b with | mk b => congr 1; exact Array.toList_inj.1 e
  refine (List.perm_ext_iff_of_nodup (compact_nodup _ (srtL_pairwise _)) ?_).2 fun x => ?_
  · exact List.pairwise_map.2 ((Pcs.all_nodup h).imp fun h e => h (inj _ _ e))
  · rw [compact_mem]
    unfold srtL
    rw [List.mem_mergeSort, List.mem_map, List.mem_map]
    constructor
    · rintro ⟨s, hs, rfl⟩; exact ⟨s, (hm s).2 hs, rfl⟩
    · rintro ⟨s, hs, rfl⟩; exact ⟨s, (hm s).1 hs, rfl⟩
theorem all_cnt (p : Pcs) : p.all.length = p.cnt := by unfold Pcs.all Pcs.cnt; rw [List.length_flatMap]
theorem all_sto (p : Pcs) : sizes p.all = p.sto := by
  unfold Pcs.all Pcs.sto
  generalize p.L = L
  induction L with
  | nil => rfl
  | cons a r ih =>
    simp only [List.flatMap_cons, List.map_cons, List.sum_cons]
    rw [← ih]; unfold sizes; rw [List.map_append, List.sum_append]
def lens (l : List (List UInt8)) : Nat := (l.map List.length).sum
theorem distinct_count {p : Pcs} (h : p.Ok) {ps : List ByteArray} (hm : ∀ x, x ∈ p.all ↔ x ∈ ps) : (distinct ps).length = p.cnt ∧ lens (distinct ps) = p.sto := by
  have hp := distinct_perm h hm
  refine ⟨?_, ?_⟩
  · rw [hp.length_eq, List.length_map, all_cnt]
  · unfold lens
    rw [(hp.map List.length).sum_nat, List.map_map, ← all_sto]
    unfold sizes
    congr 1
theorem build_all (d : List (ByteArray × ByteArray)) (x : ByteArray) : x ∈ (build d).p.all ↔ ∃ y ∈ d, x ∈ parts y.2 := by
  have key : ∀ (d : List (ByteArray × ByteArray)) (S : St), S.p.Ok → (x ∈ (d.foldl (fun S x => S.add x.1 x.2) S).p.all ↔ x ∈ S.p.all ∨ ∃ y ∈ d, x ∈ parts y.2) := by
    intro d
    induction d with
    | nil => intro S _; simp
    | cons y r ih =>
      intro S h
      have e1 : (S.add y.1 y.2).p = (S.p.store (parts y.2)).1 := rfl
      have := ih (S.add y.1 y.2) (Pcs.store_ok h (parts y.2)).1
      rw [List.foldl_cons, this, e1, Pcs.store_all h]
      simp only [List.mem_cons, exists_eq_or_imp, or_assoc]
  have := key d St.none Pcs.none_ok
  unfold build
  rw [this]
  have e : x ∉ St.none.p.all := by simp [St.none, Pcs.none, Pcs.all]
  simp [e]
/-- The pieces of what is told. -/
def pcsOf (os : List ByteArray) : List ByteArray := os.flatMap parts
theorem parts_empty : parts ByteArray.empty = [] := by
  unfold parts; rw [cuts_nil (by rfl)]; rfl
theorem pcs_kept (ds : List ByteArray) (n : Nat) (x : ByteArray) : x ∈ (build (kept ds n)).p.all ↔ x ∈ pcsOf (outs ds n) := by
  rw [build_all]
  unfold pcsOf
  rw [List.mem_flatMap]
  constructor
  · rintro ⟨y, hy, hx⟩
    obtain ⟨j, hj, _, e, h⟩ := mem_kept hy
    refine ⟨y.2, ?_, hx⟩
    unfold outs
    exact List.mem_map.2 ⟨j, List.mem_range.2 hj, by rw [← e, if_pos h]⟩
  · rintro ⟨s, hs, hx⟩
    unfold outs at hs
    obtain ⟨j, hj, e⟩ := List.mem_map.1 hs
    by_cases h : (ds.getD j ByteArray.empty).size ≤ 16384
    · rw [if_pos h] at e
      subst e
      exact ⟨_, mem_keptOf (List.mem_range.1 hj) h, hx⟩
    · rw [if_neg h] at e
      subst e
      rw [parts_empty] at hx; cases hx
theorem bytes_kept (ds : List ByteArray) (n : Nat) : total (kept ds n) = sizes (outs ds n) := by
  induction n with
  | zero => rfl
  | succ n ih =>
    rw [kept_succ, outs_succ]
    have e : ∀ (l : List ByteArray) (s : ByteArray), sizes (l ++ [s]) = sizes l + s.size := fun l s => by unfold sizes; rw [List.map_append, List.sum_append]; simp
    rw [e]
    split
    · unfold total at ih ⊢; rw [List.map_append, List.sum_append, ih]; simp
    · rw [ih]; rfl
end Arc
end Go.Proofs.YtpfkmjckjomeeaaDoor
