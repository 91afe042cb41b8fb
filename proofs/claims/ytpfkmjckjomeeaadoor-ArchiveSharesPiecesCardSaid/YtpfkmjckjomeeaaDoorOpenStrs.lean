/- A slice of strings that came in, opened to what the walks ask. -/
import Derived.Test.YtpfkmjckjomeeaaDoorArcAM
import Derived.Deep.Strs
import Derived.Deep.Slices
import Derived.Deep.Fields
import Derived.ChangeSame
import Derived.SizedLaws
import Derived.Lib.SmallJoins
namespace Go.Proofs.YtpfkmjckjomeeaaDoor
open Go.RowKit
open Go.Joins Go.ChangeShapes Go.WideShapes Go.ChangeAt Go.Deep
theorem cellsStr : Tryd.prog.cellsOf 9 = 1 := by kernel_rfl
theorem bytesStr : Tryd.prog.bytesOf 9 = 16 := by kernel_rfl
theorem open_strlist {H : Type} {enc : TypeId × Value → H} {W : World} {n : Nat} {v : Value} {y : DataW H × List MemPlace} (h : DataW.trod enc Tryd.prog W 0 (fun _ => true) true n 30 [v] = some y) :
    ∃ ds : List ByteArray, Sl W (fun _ => True) v (strs ds) ∧ ∀ j, (ds.getD j ByteArray.empty).size ≤ maxLen := by
  rcases open_strs Tryd.underlying30 Tryd.underlying9 cellsStr h with ⟨hc, hx⟩ | ⟨a, len, cap, m, Sx, hc, _, hl, hm, hmm, hx, hall⟩
  · simp only [List.cons.injEq, and_true] at hc
    subst hc
    exact ⟨[], Sl.nil _ _, fun j => by simp [maxLen]⟩
  · simp only [List.cons.injEq, and_true] at hc
    subst hc
    simp only [if_true] at hmm
    subst hmm
    refine ⟨(List.range len).map Sx, ⟨some a, m, by simp [strs], by simpa [strs] using hl, hm, fun hn => ⟨a, rfl, trivial, ?_, fun i u hu => ?_⟩⟩, fun j => ?_⟩
    · have hlen : 0 < len := by simpa [strs] using hn
      have hz := (hall 0 (by omega)).1
      rcases Nat.lt_or_ge a.block W.heap.size with h1 | h1
      · exact h1
      · have : a.add 0 = a := rfl
        rw [this] at hz
        simp [World.cell?, Array.getElem?_eq_none h1] at hz
    · simp only [strs, List.map_map, List.getElem?_map] at hu
      have hi : i < len := by
        rcases Nat.lt_or_ge i len with h1 | h1
        · exact h1
        · rw [List.getElem?_eq_none (by simpa using h1)] at hu; simp at hu
      rw [List.getElem?_range hi] at hu
      simp only [Option.map_some, Function.comp, Option.some.injEq] at hu
      rw [← hu]; exact (hall i (by omega)).1
    · rw [List.getD_eq_getElem?_getD, List.getElem?_map]
      by_cases hj : j < len
      · rw [List.getElem?_range hj]; exact (hall j (by omega)).2
      · rw [List.getElem?_eq_none (by simpa using hj)]; simp [maxLen]
end Go.Proofs.YtpfkmjckjomeeaaDoor
