/- The walk of slices.Equal at []int. -/
import Derived.Test.YtefkglmdkjkbiaaDoorProg
import Derived.Test.YtefkglmdkjkbiaaDoorKit
import Derived.Deep.QuietTactic
import Derived.BigQuiet
namespace Go.Proofs.YtefkglmdkjkbiaaDoor
open Go.RowKit
theorem equal_ints (v1 v2 : Value) (xs ys : List Int) (w : World) (ok1 ok2 : Nat → Prop) (h1 : Sl w ok1 v1 (ints xs)) (h2 : Sl w ok2 v2 (ints ys)) :
    Calls Tryd.prog 20 #[v1, v2] w fun e w' => e = .returned (.bool (decide (xs = ys))) ∧ Same w w' := by
  have hm : xs.length ≤ 9223372036854775807 ∧ ys.length ≤ 9223372036854775807 := by
    obtain ⟨_, _, _, a, b, _⟩ := h1; obtain ⟨_, _, _, c, d, _⟩ := h2
    rw [ints_length] at a c; unfold maxLen at b d; omega
  obtain ⟨m1, m2⟩ := hm
  by_cases hl : xs.length = ys.length
  · by_cases hn : 0 < xs.length
    · obtain ⟨ad1, cap1, rfl, _, _, c1⟩ := h1.open_ (by rw [ints_length]; exact hn)
      obtain ⟨ad2, cap2, rfl, _, _, c2⟩ := h2.open_ (by rw [ints_length]; omega)
      rw [ints_length, ints_length, ← hl]
      generalize hnn : xs.length = n at *
      have HL := Lib.hid hl
      have HN := Lib.hid hnn
      have C1 := Lib.hid c1
      have C2 := Lib.hid c2
      clear hl hnn c1 c2 h1 h2
      go_enter Tryd.func20, Tryd.ntmps20
      go_wp2
      go_loopw [5, 13] (fun _ vi wr => ∃ k : Nat, k ≤ n ∧ vi = .int .i64 k ∧ (∀ j, j < k → xs.getD j 0 = ys.getD j 0) ∧ Same w wr) (fun _ i _ => n - (intOf i).toNat)
      case atStart => exact ⟨0, by omega, rfl, fun j hj => by omega, Same.refl _⟩
      case round =>
        obtain ⟨k, hk, rfl, hall, q, rfl⟩ := hrel
        have HA := Lib.hid hall
        clear hall
        by_cases hlt : k < n
        · have d1 := C1.out k _ (ints_get (by rw [HN.out]; exact hlt))
          have d2 := C2.out k _ (ints_get (by rw [← HL.out]; exact hlt))
          have HX0 := Lib.hid (rfl : xs.getD k 0 = xs.getD k 0)
          have HY0 := Lib.hid (rfl : ys.getD k 0 = ys.getD k 0)
          generalize hxk : xs.getD k 0 = x at d1
          generalize hyk : ys.getD k 0 = y at d2
          have HX1 := Lib.hid hxk
          have HY1 := Lib.hid hyk
          clear hxk hyk HX0 HY0
          by_cases he : x = y
          · have HE := Lib.hid he
            have hb : (x != y) = false := by rw [he]; simp
            clear he
            go_wp2
            go_quiet (fail)
            go_wp2
            go_roundw
            case rel => exact ⟨k + 1, by omega, by go_num, fun j hj => by rcases Nat.lt_or_ge j k with h | h; exact HA.out j h; rw [show j = k by omega, HX1.out, HY1.out]; exact HE.out, Same.drewN _ _⟩
            case measure => simp [intOf]; omega
          · have hb : (x != y) = true := by rw [bne_iff_ne]; exact he
            have HX : Hid (decide (xs = ys) = false) := by unfold Hid; rw [decide_eq_false_iff_not]; intro e; exact he (by rw [← HX1.out, ← HY1.out, e])
            clear he
            go_wp2
            go_quiet (fail)
            go_wp2
            go_ret
            exact ⟨by rw [HX.out]; rfl, (Same.drewN _ _).drewN_ _⟩
        · obtain rfl : k = n := by omega
          have HX : Hid (decide (xs = ys) = true) := by
            unfold Hid; rw [decide_eq_true_iff]
            apply List.ext_getElem
            · rw [HN.out, HL.out]
            · intro i h1 h2
              have := HA.out i (by rw [← HN.out]; exact h1)
              rw [List.getD_eq_getElem?_getD, List.getD_eq_getElem?_getD, List.getElem?_eq_getElem h1, List.getElem?_eq_getElem h2] at this
              exact this
          go_wp2
          go_ret
          exact ⟨by rw [HX.out]; rfl, Same.drewN _ _⟩
    · have e1 : xs = [] := List.eq_nil_of_length_eq_zero (by omega)
      have e2 : ys = [] := List.eq_nil_of_length_eq_zero (by omega)
      subst e1; subst e2
      obtain ⟨A, cap, rfl⟩ := h1.form
      obtain ⟨A2, cap2, rfl⟩ := h2.form
      clear h1 h2 hl hn
      go_enter Tryd.func20, Tryd.ntmps20
      go_wp2
      refine wp_loop_once ?_
      go_wp2
      go_ret
      exact ⟨rfl, Same.refl _⟩
  · have hne : ((xs.length : Int) != (ys.length : Int)) = true := by rw [bne_iff_ne]; omega
    have HX : Hid (decide (xs = ys) = false) := by unfold Hid; rw [decide_eq_false_iff_not]; intro e; exact hl (by rw [e])
    obtain ⟨A, cap, rfl⟩ := h1.form
    obtain ⟨A2, cap2, rfl⟩ := h2.form
    rw [ints_length, ints_length]
    clear h1 h2 hl
    go_enter Tryd.func20, Tryd.ntmps20
    go_wp2
    go_ret
    exact ⟨by rw [HX.out]; rfl, Same.refl _⟩
end Go.Proofs.YtefkglmdkjkbiaaDoor
