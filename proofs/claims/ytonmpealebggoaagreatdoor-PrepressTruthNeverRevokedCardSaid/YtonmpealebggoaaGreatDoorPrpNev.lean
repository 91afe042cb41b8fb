/- One more fact, in plain words: what was true or false stays; the order of names. No program is in sight here. -/
import Derived.Test.YtonmpealebggoaaGreatDoorPrpDel
import Derived.Shelf.SlSortCmp.WholeK
namespace Go.Proofs.YtonmpealebggoaaGreatDoor
open Go.Shelf Go.Lib Go.Sort
namespace Pr
theorem trut_zero {r : Rl} {l : List Ft} (he : (trutE r l).2 = 0) : FtsOk l ∧ (trutE r l).1 = truthF 12 l r.2 := by
  unfold trutE at *
  by_cases g1 : checkE [r] ≠ 0
  · rw [if_pos g1] at he; exact absurd he g1
  by_cases g2 : factsE l ≠ 0
  · rw [if_neg g1, if_pos g2] at he; exact absurd he g2
  rw [if_neg g1, if_neg g2]
  exact ⟨factsE_zero.1 (Classical.not_not.1 g2), rfl⟩
theorem never {r : Rl} {l out : List Ft} (h : ∀ x ∈ l, x ∈ out) (he : (trutE r l).2 = 0) (hg : (trutE r out).2 = 0) : (trutE r l).1 = 2 ∨ (trutE r l).1 = (trutE r out).1 := by
  obtain ⟨ho, e1⟩ := trut_zero he
  obtain ⟨hq, e2⟩ := trut_zero hg
  rw [e1, e2]
  rcases truth_more (tells_sub hq h ho.2.2) 12 r.2 with h1 | h1
  · exact .inl h1
  · exact .inr h1.symm
theorem fails {r : Rl} {l : List Ft} (he : (trutE r l).2 ≠ 0) : (trutE r l).1 = 0 := by
  unfold trutE at *
  split at he
  · next h => rw [if_pos h]
  split at he
  · next h1 h => rw [if_neg h1, if_pos h]
  · exact absurd rfl he
theorem cmp_lt : ∀ a b : Src, decide (Lib.compareBytes a b < 0) = ltB a b
  | [], [] => by simp [Lib.compareBytes, ltB]
  | [], _ :: _ => by simp [Lib.compareBytes, ltB]
  | _ :: _, [] => by simp [Lib.compareBytes, ltB]
  | a :: r, b :: s => by
    unfold Lib.compareBytes ltB
    by_cases h1 : a < b
    · simp [h1]
    · by_cases h2 : b < a
      · simp [h1, h2]
      · simp only [h1, h2, if_false]; exact cmp_lt r s
theorem ltB_ntr : ∀ {a b c : Src}, ltB a b = false → ltB b c = false → ltB a c = false
  | [], [], c, _, h => h
  | [], _ :: _, _, h, _ => by simp [ltB] at h
  | _ :: _, _, [], _, _ => rfl
  | x :: r, [], z :: t, _, h => by simp [ltB] at h
  | x :: r, y :: s, z :: t, h1, h2 => by
    unfold ltB at h1 h2 ⊢
    by_cases a1 : x < y
    · simp [a1] at h1
    by_cases a2 : y < z
    · simp [a2] at h2
    have a3 : ¬ x < z := fun h => by
      have := UInt8.lt_iff_toNat_lt.1 h
      have b1 : ¬ x.toNat < y.toNat := fun k => a1 (UInt8.lt_iff_toNat_lt.2 k)
      have b2 : ¬ y.toNat < z.toNat := fun k => a2 (UInt8.lt_iff_toNat_lt.2 k)
      omega
    simp only [a1, a2, a3, if_false] at h1 h2 ⊢
    by_cases c1 : z < x
    · simp [c1]
    · simp only [c1, if_false]
      have b1 : ¬ x.toNat < y.toNat := fun k => a1 (UInt8.lt_iff_toNat_lt.2 k)
      have b2 : ¬ y.toNat < z.toNat := fun k => a2 (UInt8.lt_iff_toNat_lt.2 k)
      have b3 : ¬ z.toNat < x.toNat := fun k => c1 (UInt8.lt_iff_toNat_lt.2 k)
      have e1 : ¬ y < x := fun k => by have := UInt8.lt_iff_toNat_lt.1 k; omega
      have e2 : ¬ z < y := fun k => by have := UInt8.lt_iff_toNat_lt.1 k; omega
      simp only [e1, e2, if_false] at h1 h2
      exact ltB_ntr h1 h2
/-- The order that add sorts by. -/
theorem swoN : SWO (ltOf fun x y : Ft => Lib.compareBytes x.1 y.1) where
  irrefl x := by unfold ltOf; rw [cmp_lt]; exact ltB_irr _
  trans x y z h1 h2 := by unfold ltOf at *; rw [cmp_lt] at *; exact ltB_trans h1 h2
  ntrans x y z h1 h2 := by unfold ltOf at *; rw [cmp_lt] at *; exact ltB_ntr h1 h2
end Pr
end Go.Proofs.YtonmpealebggoaaGreatDoor
