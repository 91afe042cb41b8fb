/- The walk of slices.IsSorted at []int. -/
import Derived.Test.YtcnoehaemankiaaProg
import Derived.Test.YtcnoehaemankiaaKit
import Derived.Deep.QuietTactic
import Derived.BigQuiet
namespace Go.Proofs.Ytcnoehaemankiaa
open Go.RowKit
/-- No element is smaller than the one before it. -/
def Asc (xs : List Int) : Prop := ∀ i, i + 1 < xs.length → xs.getD i 0 ≤ xs.getD (i + 1) 0
theorem nan_any (x : Int) (w : World) : Calls Try.prog 30 #[.int .i64 x] w fun e w' => e = .returned (.bool false) ∧ w = w' := by
  go_enter Try.func30, Try.ntmps30
  go_wp2
  go_ret
  exact ⟨by simp, rfl⟩
theorem less_any (x y : Int) (w : World) : Calls Try.prog 23 #[.int .i64 x, .int .i64 y] w fun e w' => e = .returned (.bool (decide (x < y))) ∧ w = w' := by
  go_enter Try.func23, Try.ntmps23
  by_cases h : x < y
  · have hd : decide (x < y) = true := by simpa using h
    go_wp2_with (go_at_call 30; refine (nan_any _ _).mono ?_; rintro e w' ⟨rfl, rfl⟩)
    go_ret
    exact ⟨by simp [h], rfl⟩
  · have hd : decide (x < y) = false := by simpa using h
    go_wp2_with (go_at_call 30; refine (nan_any _ _).mono ?_; rintro e w' ⟨rfl, rfl⟩)
    go_ret
    exact ⟨by simp [h], rfl⟩
def SortedPost (P : Prop) (w : World) (e : Ending) (w' : World) : Prop := (∃ b : Bool, e = .returned (.bool b) ∧ (b = true ↔ P)) ∧ Same w w'
theorem less_q (x y : Int) (w : World) : Calls Try.prog 23 #[.int .i64 x, .int .i64 y] w fun e w' => e = .returned (.bool (decide (x < y))) ∧ w' = w := (less_any x y w).mono fun _ _ ⟨h, e⟩ => ⟨h, e.symm⟩
theorem sorted_yes {P : Prop} {w w' : World} (h : P) (hs : Same w w') : SortedPost P w (.returned (.bool true)) w' := ⟨⟨true, rfl, by simp [h]⟩, hs⟩
theorem sorted_no {P : Prop} {w w' : World} (h : ¬ P) (hs : Same w w') : SortedPost P w (.returned (.bool false)) w' := ⟨⟨false, rfl, by simp [h]⟩, hs⟩
theorem sorted_ints (v : Value) (xs : List Int) (w : World) (ok : Nat → Prop) (h : Sl w ok v (ints xs)) :
    Calls Try.prog 13 #[v] w (SortedPost (Asc xs) w) := by
  obtain ⟨A, cap, rfl⟩ := h.form
  have hm : xs.length ≤ 9223372036854775807 := by have := h.cap_le; rw [ints_length] at this; unfold maxLen at this; omega
  rw [ints_length] at h ⊢
  have HS := Lib.hid h
  have hT : Hid ((∀ i, 0 ≤ i → i + 1 < xs.length → xs.getD i 0 ≤ xs.getD (i + 1) 0) → Asc xs) := fun h i hi => h i (by omega) hi
  have hF : Hid (∀ i, i + 1 < xs.length → xs.getD (i + 1) 0 < xs.getD i 0 → ¬ Asc xs) := fun i h1 h2 h3 => by have := h3 i h1; omega
  generalize Asc xs = P at *
  generalize hnn : xs.length = n at *
  have HN := Lib.hid hnn
  clear h hnn
  have HPd : Hid (∀ w', P → Same w w' → SortedPost P w (.returned (.bool true)) w') := fun w' h hs => sorted_yes h hs
  have HNd : Hid (∀ w', ¬ P → Same w w' → SortedPost P w (.returned (.bool false)) w') := fun w' h hs => sorted_no h hs
  generalize SortedPost P w = Post at *
  by_cases hz : n = 0
  · subst hz
    have hP := hT.out fun i _ hi => by omega
    have HP := Lib.hid hP
    clear hP
    go_enter Try.func13, Try.ntmps13
    go_wp2
    refine wp_loop_once ?_
    go_wp2
    exact HPd.out _ HP.out (Same.refl _)
  · go_enter Try.func13, Try.ntmps13
    go_wp2
    go_loopw [3] (fun vi wr => ∃ k : Nat, k < n ∧ vi = .int .i64 (k : Int) ∧ (∀ j, k ≤ j → j + 1 < n → xs.getD j 0 ≤ xs.getD (j + 1) 0) ∧ Same w wr) (fun i _ => (intOf i).toNat)
    case atStart => exact ⟨n - 1, by omega, valInt (by omega), fun j h1 h2 => by omega, Same.refl _⟩
    case round =>
      obtain ⟨k, hk, rfl, hall, hw⟩ := hrel
      have HA := Lib.hid hall
      have HW := Lib.hid hw
      clear hall hw
      by_cases hz : k = 0
      · have hP := hT.out fun i _ hi => HA.out i (by omega) hi
        have HP := Lib.hid hP
        clear hP
        subst hz
        go_wp2
        exact HPd.out _ HP.out HW.out
      · obtain ⟨b, off, hA, hb, hc⟩ := (HS.out.same HW.out).plainA (by rw [ints_length, HN.out]; omega)
        subst hA
        have d1 := hc k _ (ints_get (by rw [HN.out]; exact hk))
        have d2 := hc (k - 1) _ (ints_get (by rw [HN.out]; omega))
        generalize hx : xs.getD (k - 1) 0 = x at d2
        generalize hy : xs.getD k 0 = y at d1
        have HX := Lib.hid hx
        have HY := Lib.hid hy
        have hk1 : k - 1 + 1 = k := by omega
        have HK := Lib.hid hk1
        have e1 : IntKind.i64.wrap ((k : Int) - 1) = (k : Int) - 1 := IntWalk.i64_in _ (by omega)
        have e2 : 0 ≤ (k : Int) - 1 := by omega
        have e3 : (1 : Int) ≤ k := by omega
        have e4 : ((k : Int) - 1).toNat = k - 1 := by omega
        have e5 : (k : Int) - 1 < (n : Int) := by omega
        have e6 : (k : Int) < (n : Int) := by omega
        have HE := Lib.hid e1
        clear hx hy hc hz hk1 e1
        by_cases hlt : y < x
        · have hP := hF.out (k - 1) (by omega) (by rw [HX.out, HK.out, HY.out]; exact hlt)
          have HP := Lib.hid hP
          have hd : decide (y < x) = true := by simpa using hlt
          have HL : Hid (∀ w, Calls Try.prog 23 #[.int .i64 y, .int .i64 x] w fun e w' => e = .returned (.bool true) ∧ w' = w) := fun w => by have := less_q y x w; rwa [hd] at this
          clear hd
          clear hP hlt
          go_wp2
          have e1 := HE.out
          go_quiet ((go_at_call 23; refine Calls.quiet_of_same (HL.out _)))
          clear e1 e2 e3 e4 e5 e6
          go_wp2
          exact HNd.out _ HP.out (HW.out.drewN_ _)
        · have hd : decide (y < x) = false := by simpa using hlt
          have HL : Hid (∀ w, Calls Try.prog 23 #[.int .i64 y, .int .i64 x] w fun e w' => e = .returned (.bool false) ∧ w' = w) := fun w => by have := less_q y x w; rwa [hd] at this
          clear hd
          have HLe := Lib.hid hlt
          clear hlt
          go_wp2
          have e1 := HE.out
          go_quiet ((go_at_call 23; refine Calls.quiet_of_same (HL.out _)))
          clear e1 e2 e3 e4 e5 e6
          go_wp2
          go_roundw
          case rel => exact ⟨k - 1, by omega, valInt (by omega), fun j h1 h2 => by rcases Nat.lt_or_ge (k - 1) j with h | h; exact HA.out j (by omega) h2; rw [show j = k - 1 by omega, HX.out, HK.out, HY.out]; have := HLe.out; omega, HW.out.drewN_ _⟩
          case measure => simp [intOf]; omega
end Go.Proofs.Ytcnoehaemankiaa
