/- A path that came in, with the sizes of its steps. -/
import Derived.Test.YthbdhijkdldmoaaGreatDoorObjOpen
import Derived.SizedLaws
namespace Go.Proofs.YthbdhijkdldmoaaGreatDoor
open Go.RowKit Tk Ob
open Go.Joins Go.ChangeShapes Go.WideShapes Go.ChangeAt Go.Deep
theorem weights_strs {H : Type} (P : Program) (e : TypeId) : ∀ (n : Nat) (f : Nat → List UInt8) (g : Nat → Nat), ∀ i, i < n → (f (g i)).length ∈ DataW.weightsAll P e ((List.range n).map fun i => (.lit (.string (f (g i))) : DataW H)) := by
  have key : ∀ (l : List Nat) (f : Nat → List UInt8) (i : Nat), i ∈ l → (f i).length ∈ DataW.weightsAll P e (l.map fun i => (.lit (.string (f i)) : DataW H)) := by
    intro l f i hi
    induction l with
    | nil => cases hi
    | cons a r ih =>
      simp only [List.map_cons, DataW.weightsAll, DataW.weights, List.mem_append, List.mem_singleton]
      rcases List.mem_cons.1 hi with rfl | hi
      · exact .inl rfl
      · exact .inr (ih hi)
  exact fun n f g i hi => key (List.range n) (fun i => f (g i)) i (List.mem_range.2 hi)
theorem open_keys2 {H : Type} {enc : TypeId × Value → H} {W : World} {n : Nat} {v : Value} {y : DataW H × List MemPlace} (h : DataW.trod enc Tryz.prog W 0 (fun _ => true) true n 22 [v] = some y) (hw : ∀ k ∈ y.1.weights Tryz.prog 22, k ≤ reachBytes) :
    ∃ ks : List Tk.Src, Sl W (fun _ => True) v (strs ks) ∧ ∀ s ∈ ks, s.length ≤ 140737488355328 := by
  rcases open_strs Tryz.underlying22 Tryz.underlying9 cellsS h with ⟨hc, hx⟩ | ⟨a, len, cap, m, Sx, hc, _, hl, hm, hmm, hx, hall⟩
  · simp only [List.cons.injEq, and_true] at hc
    subst hc
    exact ⟨[], Sl.nil _ _, fun s hs => by cases hs⟩
  · simp only [List.cons.injEq, and_true] at hc
    subst hc
    simp only [if_true] at hmm
    subst hmm
    refine ⟨(List.range len).map fun i => (Sx i).data.toList, ⟨some a, m, by simp [strs], by simpa [strs] using hl, hm, fun hn => ⟨a, rfl, trivial, ?_, fun i u hu => ?_⟩⟩, fun s hs => ?_⟩
    · have hlen : 0 < len := by simpa [strs] using hn
      have hz := (hall 0 (by omega)).1
      rcases Nat.lt_or_ge a.block W.heap.size with h1 | h1
      · exact h1
      · have : a.add 0 = a := rfl
        rw [this] at hz
        simp [World.cell?, Array.getElem?_eq_none h1] at hz
    · simp only [strs, List.map_map, List.getElem?_map] at hu
      have hi : i < len := by
        rcases Nat.lt_or_ge i len with h1 | h1
        · exact h1
        · rw [List.getElem?_eq_none (by simpa using h1)] at hu; simp at hu
      rw [List.getElem?_range hi] at hu
      simp only [Option.map_some, Function.comp, Option.some.injEq] at hu
      rw [← hu]; exact (hall i (by omega)).1
    · obtain ⟨i, hi, rfl⟩ := List.mem_map.1 hs
      subst hx
      have h1 := hw _ (by
        simp only [DataW.weights, Tryz.underlying22]
        exact List.mem_cons_of_mem _ (List.mem_append.2 (.inl (weights_strs Tryz.prog 9 len (fun i => (Sx i).data.toList) (fun i => i) i (List.mem_range.1 hi)))))
      have h2 := reachBytes_lt
      omega
set_option maxRecDepth 100000 in
theorem open_path2 {H : Type} {enc : TypeId × Value → H} {W : World} {base : Nat} {v : Value} {d : DataW H} {p : List MemPlace} (hv : Value.okWide Tryz.prog W .any base 22 v) (h : DataW.Trod enc Tryz.prog W 0 (fun _ => true) true 22 v d p) (hw : ∀ k ∈ d.weights Tryz.prog 22, k ≤ reachBytes) :
    ∃ ks : List Tk.Src, Sl W (fun _ => True) v (strs ks) ∧ ∀ s ∈ ks, s.length ≤ 140737488355328 := by
  obtain ⟨a, len, cap, rfl⟩ := Go.WideShapes.okWide_slice Tryz.underlying22 hv
  obtain ⟨n, hn⟩ := h
  exact open_keys2 (n := n) (by simpa [Value.cells] using hn) hw
end Go.Proofs.YthbdhijkdldmoaaGreatDoor
