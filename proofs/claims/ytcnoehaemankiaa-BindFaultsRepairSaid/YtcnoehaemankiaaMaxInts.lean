/- The walk of slices.Max at []int, of at least one element. -/
import Derived.Test.YtcnoehaemankiaaProg
import Derived.Test.YtcnoehaemankiaaKit
namespace Go.Proofs.Ytcnoehaemankiaa
open Go.RowKit
/-- The greatest of the first k + 1 elements. -/
def maxTo (xs : List Int) : Nat → Int
  | 0 => xs.getD 0 0
  | k + 1 => max (maxTo xs k) (xs.getD (k + 1) 0)
theorem le_maxTo (xs : List Int) (k : Nat) : ∀ j, j ≤ k → xs.getD j 0 ≤ maxTo xs k := by
  induction k with
  | zero => intro j hj; rw [show j = 0 by omega]; exact Int.le_refl _
  | succ k ih =>
    intro j hj
    simp only [maxTo]
    rcases Nat.lt_or_ge k j with h | h
    · rw [show j = k + 1 by omega]; omega
    · have := ih j h; omega
theorem maxTo_mem (xs : List Int) (k : Nat) : ∃ j, j ≤ k ∧ maxTo xs k = xs.getD j 0 := by
  induction k with
  | zero => exact ⟨0, Nat.le_refl _, rfl⟩
  | succ k ih =>
    obtain ⟨j, hj, h⟩ := ih
    simp only [maxTo]
    rcases Int.le_total (maxTo xs k) (xs.getD (k + 1) 0) with c | c
    · exact ⟨k + 1, Nat.le_refl _, by omega⟩
    · exact ⟨j, by omega, by omega⟩
theorem max_ints (v : Value) (xs : List Int) (w : World) (ok : Nat → Prop) (h : Sl w ok v (ints xs)) (h0 : 0 < xs.length) :
    Calls Try.prog 28 #[v] w fun e w' => e = .returned (.int .i64 (maxTo xs (xs.length - 1))) ∧ w = w' := by
  obtain ⟨A, cap, rfl⟩ := h.form
  have hm : xs.length ≤ 9223372036854775807 := by have := h.cap_le; rw [ints_length] at this; unfold maxLen at this; omega
  rw [ints_length] at h ⊢
  obtain ⟨b, off, hA, hb, hc⟩ := h.plainA (by rw [ints_length]; exact h0)
  subst hA
  have HC := Lib.hid hc
  generalize hnn : xs.length = n at *
  have HN := Lib.hid hnn
  have d0 := hc 0 _ (ints_get (by rw [HN.out]; exact h0))
  rw [Nat.add_zero] at d0
  have hz : ¬ (n = 0) := by omega
  clear h hnn hc
  go_enter Try.func28, Try.ntmps28
  go_wp2
  clear d0
  go_loop [3, 4] (fun vm vi => ∃ k : Nat, k < n ∧ vi = .int .i64 ((k : Int) + 1) ∧ vm = .int .i64 (maxTo xs k)) (fun _ i => n - (intOf i).toNat)
  case atStart => exact ⟨0, by omega, rfl, rfl⟩
  case round =>
    obtain ⟨k, hk, rfl, rfl⟩ := hrel
    by_cases hlt : k + 1 < n
    · have d1 := HC.out (k + 1) _ (ints_get (by rw [HN.out]; exact hlt))
      have HM : Hid (maxTo xs (k + 1) = max (maxTo xs k) (xs.getD (k + 1) 0)) := rfl
      generalize xs.getD (k + 1) 0 = y at *
      generalize hM : maxTo xs (k + 1) = M at *
      have HMM := Lib.hid hM
      clear hM
      generalize maxTo xs k = z at *
      rcases Int.le_total z y with c | c
      all_goals
        go_wp2
        go_round
        case rel => exact ⟨k + 1, hlt, by go_num, valInt (by rw [HMM.out, HM.out]; omega)⟩
        case measure => simp [intOf]; omega
    · obtain rfl : n = k + 1 := by omega
      go_wp2
      go_ret
      exact ⟨rfl, rfl⟩
end Go.Proofs.Ytcnoehaemankiaa
