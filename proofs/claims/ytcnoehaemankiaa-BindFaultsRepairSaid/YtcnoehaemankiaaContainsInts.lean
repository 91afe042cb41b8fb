/- The walks of slices.Index and slices.Contains at []int. -/
import Derived.Test.YtcnoehaemankiaaProg
import Derived.Test.YtcnoehaemankiaaKit
namespace Go.Proofs.Ytcnoehaemankiaa
open Go.RowKit
/-- The first place of v, or -1. -/
def idx (v : Int) : List Int → Int
  | [] => -1
  | x :: t => if x = v then 0 else if idx v t < 0 then -1 else idx v t + 1
theorem idx_mem (v : Int) (l : List Int) : 0 ≤ idx v l ↔ v ∈ l := by
  induction l with
  | nil => simp [idx]
  | cons x t ih =>
    simp only [idx, List.mem_cons]
    by_cases hx : x = v
    · simp [hx]
    · rw [if_neg hx]
      by_cases ht : idx v t < 0
      · rw [if_pos ht]
        have : ¬ v ∈ t := fun h => by have := ih.2 h; omega
        simp [this, Ne.symm hx]
      · rw [if_neg ht]
        have : v ∈ t := ih.1 (by omega)
        simp [this]; omega
theorem idx_at {v : Int} {l : List Int} {k : Nat} (hk : k < l.length) (h : l.getD k 0 = v) (hn : ∀ j, j < k → l.getD j 0 ≠ v) : idx v l = k := by
  induction l generalizing k with
  | nil => simp at hk
  | cons x t ih =>
    cases k with
    | zero => simp at h; simp [idx, h]
    | succ k =>
      have h0 := hn 0 (by omega)
      simp at h0
      have := ih (k := k) (by simpa using hk) (by simpa using h) fun j hj => by simpa using hn (j + 1) (by omega)
      simp [idx, h0, this]; omega
theorem idx_none {v : Int} {l : List Int} (hn : ∀ j, j < l.length → l.getD j 0 ≠ v) : idx v l = -1 := by
  induction l with
  | nil => rfl
  | cons x t ih =>
    have h0 := hn 0 (by simp)
    simp at h0
    have := ih fun j hj => by simpa using hn (j + 1) (by simp; omega)
    simp [idx, h0, this]
theorem idx_bd (v : Int) (l : List Int) : -1 ≤ idx v l ∧ idx v l < l.length ∨ l = [] ∧ idx v l = -1 := by
  induction l with
  | nil => right; exact ⟨rfl, rfl⟩
  | cons x t ih =>
    left
    simp only [idx, List.length_cons]
    split
    · omega
    · split
      · omega
      · rcases ih with h | ⟨h1, h2⟩ <;> omega
theorem index_ints (v : Value) (xs : List Int) (x : Int) (w : World) (ok : Nat → Prop) (h : Sl w ok v (ints xs)) :
    Calls Try.prog 24 #[v, .int .i64 x] w fun e w' => e = .returned (.int .i64 (idx x xs)) ∧ w = w' := by
  obtain ⟨A, cap, rfl⟩ := h.form
  have hm : xs.length ≤ 9223372036854775807 := by have := h.cap_le; rw [ints_length] at this; unfold maxLen at this; omega
  rw [ints_length] at h ⊢
  have HS := Lib.hid h
  have hN : Hid (∀ k, k < xs.length → xs.getD k 0 = x → (∀ j, j < k → xs.getD j 0 ≠ x) → idx x xs = k) := fun k h1 h2 h3 => idx_at h1 h2 h3
  have hN2 : Hid ((∀ j, j < xs.length → xs.getD j 0 ≠ x) → idx x xs = -1) := fun h => idx_none h
  generalize idx x xs = R at *
  generalize hnn : xs.length = n at *
  have HN := Lib.hid hnn
  clear h hnn
  go_enter Try.func24, Try.ntmps24
  go_wp2
  go_loop [8] (fun vi => ∃ k : Nat, k ≤ n ∧ vi = .int .i64 k ∧ ∀ j, j < k → xs.getD j 0 ≠ x) (fun i => n - (intOf i).toNat)
  case atStart => exact ⟨0, by omega, rfl, fun j hj => by omega⟩
  case round =>
    obtain ⟨k, hk, rfl, hall⟩ := hrel
    have HA := Lib.hid hall
    clear hall
    by_cases hlt : k < n
    · obtain ⟨b, off, hA, hb, hc⟩ := HS.out.plainA (by rw [ints_length, HN.out]; omega)
      subst hA
      have d1 := hc k _ (ints_get (by rw [HN.out]; exact hlt))
      generalize hy : xs.getD k 0 = y at d1
      have HY := Lib.hid hy
      clear hy hc
      by_cases he : x = y
      · have hR : R = k := hN.out k hlt (by rw [HY.out, he]) HA.out
        subst hR
        have hq : (x == y) = true := by simpa using he
        clear he
        go_wp2
        go_ret
        exact ⟨rfl, rfl⟩
      · have hq : (x == y) = false := by simpa using he
        have HE := Lib.hid he
        clear he
        go_wp2
        go_round
        case rel => exact ⟨k + 1, by omega, by go_num, fun j hj => by rcases Nat.lt_or_ge j k with h | h; exact HA.out j h; rw [show j = k by omega, HY.out]; exact fun e => HE.out e.symm⟩
        case measure => simp [intOf]; omega
    · obtain rfl : k = n := by omega
      have hR : R = -1 := hN2.out HA.out
      subst hR
      go_wp2
      go_ret
      exact ⟨rfl, rfl⟩
theorem contains_ints (v : Value) (xs : List Int) (x : Int) (w : World) (ok : Nat → Prop) (h : Sl w ok v (ints xs)) :
    Calls Try.prog 15 #[v, .int .i64 x] w fun e w' => e = .returned (.bool (decide (x ∈ xs))) ∧ w = w' := by
  obtain ⟨A, cap, rfl⟩ := h.form
  have hI := Lib.hid (index_ints _ xs x w ok h)
  rw [ints_length] at h hI ⊢
  have e : decide (x ∈ xs) = decide (0 ≤ idx x xs) := by simp only [idx_mem]
  rw [e]
  clear e h
  generalize idx x xs = R at *
  go_enter Try.func15, Try.ntmps15
  go_wp2_with (go_at_call 24; refine hI.out.mono ?_; rintro e w' ⟨rfl, rfl⟩)
  go_ret
  exact ⟨rfl, rfl⟩
end Go.Proofs.Ytcnoehaemankiaa
