/- A slice of ints that came in, opened to what the walks ask. -/
import Derived.Test.YtefkglmdkjkbiaaDoorProg
import Derived.Test.YtefkglmdkjkbiaaDoorKit
import Derived.Deep.Slices
import Derived.Deep.Fields
import Derived.ChangeSame
import Derived.SizedLaws
import Derived.Lib.SmallJoins
namespace Go.Proofs.YtefkglmdkjkbiaaDoor
open Go.RowKit
open Go.Joins Go.ChangeShapes Go.WideShapes Go.ChangeAt Go.Deep
theorem cells3 : Tryd.prog.cellsOf 3 = 1 := by kernel_rfl
theorem bytes3 : Tryd.prog.bytesOf 3 = 8 := by kernel_rfl
theorem open_ints {H : Type} {enc : TypeId × Value → H} {W : World} {n : Nat} {v : Value} {y : DataW H × List MemPlace} (h : DataW.trod enc Tryd.prog W 0 (fun _ => true) true n 27 [v] = some y) :
    ∃ (A : Option Addr) (c : Nat) (zs : List Int), v = .slice A zs.length c ∧ Sl W (fun _ => True) v (ints zs) ∧ ((∀ n ∈ y.1.weights Tryd.prog 27, n ≤ reachBytes) → zs.length ≤ 1000000000000000) := by
  rcases open_slice Tryd.underlying27 h with ⟨hc, hx⟩ | ⟨a, len, cap, m, k, D, Pl, hc, _, hl, hm, hmm, hx, hall⟩
  · simp only [List.cons.injEq, and_true] at hc
    subst hc
    exact ⟨none, 0, [], rfl, Sl.nil _ _, fun _ => by simp⟩
  · simp only [List.cons.injEq, and_true] at hc
    subst hc
    simp only [if_true] at hmm
    subst hmm
    rw [cells3] at hall
    have hone : ∀ i, i < m → ∃ z : Int, W.cell? (a.add i) = some (.int .i64 z) := fun i hi => by
      obtain ⟨cs', h1, h2⟩ := hall i hi
      obtain ⟨_, hlen, hcell⟩ := World.cells?_some h1
      match cs', hlen with
      | [c], _ =>
        obtain ⟨z, hc0, hd, _⟩ := DataW.trod_int Tryd.underlying3 h2
        simp only [List.cons.injEq, and_true] at hc0
        subst hc0
        have := hcell 0 (by omega)
        exact ⟨z, by simpa [Addr.add] using this⟩
    refine ⟨some a, m, (List.range len).map fun i => if hi : i < m then (hone i hi).choose else 0, by simp, ?_, fun hw => ?_⟩
    · refine ⟨some a, m, by simp [ints], by simpa [ints] using hl, hm, fun hn => ⟨a, rfl, trivial, ?_, fun i u hu => ?_⟩⟩
      · have hlen : 0 < len := by simpa [ints] using hn
        obtain ⟨z, hz⟩ := hone 0 (by omega)
        rcases Nat.lt_or_ge a.block W.heap.size with h1 | h1
        · exact h1
        · have : a.add 0 = a := rfl
          rw [this] at hz
          simp [World.cell?, Array.getElem?_eq_none h1] at hz
      · simp only [ints, List.map_map, List.getElem?_map] at hu
        have hi : i < len := by
          rcases Nat.lt_or_ge i len with h1 | h1
          · exact h1
          · rw [List.getElem?_eq_none (by simpa using h1)] at hu; simp at hu
        rw [List.getElem?_range hi] at hu
        simp only [Option.map_some, Function.comp, Option.some.injEq] at hu
        rw [dif_pos (show i < m by omega)] at hu
        rw [← hu]; exact (hone i (by omega)).choose_spec
    · rw [hx] at hw
      have := hw ((((List.range len).map D).length + ((List.range (m - len)).map fun j => D (len + j)).length) * Tryd.prog.bytesOf 3) (by simp [DataW.weights, Tryd.underlying27])
      rw [bytes3] at this
      simp only [List.length_map, List.length_range] at this ⊢
      have h2 := reachBytes_lt
      omega
end Go.Proofs.YtefkglmdkjkbiaaDoor
