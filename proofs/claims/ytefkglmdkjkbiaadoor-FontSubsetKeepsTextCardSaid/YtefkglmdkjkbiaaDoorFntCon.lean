/- The walks of far and contour. -/
import Derived.Test.YtefkglmdkjkbiaaDoorFntMem
import Derived.Deep.DeepMust
namespace Go.Proofs.YtefkglmdkjkbiaaDoor
open Go.RowKit Fnt
theorem far_any (n : Int) (w : World) : Calls Tryd.prog 75 #[.int .i64 n, .int .i64 2047] w fun e w' => e = .returned (.bool (far n)) ∧ w = w' := by
  by_cases h1 : n < -2047
  · have HF : Hid (far n = true) := by unfold Hid far; rw [decide_eq_true h1]; rfl
    go_enter Tryd.func75, Tryd.ntmps75
    go_wp2
    go_ret
    exact ⟨by rw [HF.out]; rfl, rfl⟩
  · by_cases h2 : 2047 < n
    · have HF : Hid (far n = true) := by unfold Hid far; rw [decide_eq_true h2]; simp
      go_enter Tryd.func75, Tryd.ntmps75
      go_wp2
      go_ret
      exact ⟨by rw [HF.out]; rfl, rfl⟩
    · have HF : Hid (far n = false) := by unfold Hid far; rw [decide_eq_false h1, decide_eq_false h2]; rfl
      go_enter Tryd.func75, Tryd.ntmps75
      go_wp2
      go_ret
      exact ⟨by rw [HF.out]; rfl, rfl⟩
theorem far_is {n : Int} {b : Bool} (h : far n = b) (w : World) : Calls Tryd.prog 75 #[.int .i64 n, .int .i64 2047] w fun e w' => e = .returned (.bool b) ∧ w = w' := by
  rw [← h]; exact far_any n w
theorem contour_any (v : Value) (l : List Pt) (ok : Nat → Prop) (w : World) (h : Pts w ok v l) :
    Calls Tryd.prog 74 #[v] w fun e w' => e = .returned (.int .i64 (contourE l)) ∧ Below w.heap.size w w' := by
  by_cases h3 : l.length < 3
  · obtain ⟨A, c, rfl⟩ := SlM.form h
    have he : contourE l = 4 := by unfold contourE; rw [if_pos h3]
    have HE := Lib.hid he
    generalize hn : l.length = n at *
    clear h he hn
    go_enter Tryd.func74, Tryd.ntmps74
    go_wp2
    go_ret
    exact ⟨endInt HE.out.symm, Below.refl _ _⟩
  · obtain ⟨b, off, cap, rfl, _, hb, hnc, hcm, hcell⟩ := Pts.cells h (by omega)
    have HC := Lib.hid hcell
    obtain ⟨c0, c1, c2⟩ := hcell 0 (by omega)
    rw [Nat.zero_mul, Nat.add_zero] at c0 c1 c2
    unfold maxLen at hcm
    cases h0 : (pt l 0).on with
    | false =>
      have he : contourE l = 4 := by unfold contourE; rw [if_neg h3, if_pos h0]
      have HE := Lib.hid he
      rw [h0] at c2
      generalize hn : l.length = n at *
      clear h he hn h0 hcell c0 c1
      go_enter Tryd.func74, Tryd.ntmps74
      go_wp2
      go_ret
      exact ⟨endInt HE.out.symm, Below.refl _ _⟩
    | true =>
      rw [h0] at c2
      by_cases h32 : 32 < l.length
      · have he : contourE l = 2 := by unfold contourE; rw [if_neg h3, if_neg (by rw [h0]; decide), if_pos h32]
        have HE := Lib.hid he
        generalize hn : l.length = n at *
        clear h he hn h0 hcell c0 c1
        go_enter Tryd.func74, Tryd.ntmps74
        go_wp2
        go_ret
        exact ⟨endInt HE.out.symm, Below.refl _ _⟩
      · have he : contourE l = scan (ptE l) l.length := by unfold contourE; rw [if_neg h3, if_neg (by rw [h0]; decide), if_neg h32]
        have HE := Lib.hid he
        generalize hn : l.length = n at *
        have HN := Lib.hid hn
        clear h he hn h0 hcell c0 c1
        go_enter Tryd.func74, Tryd.ntmps74
        go_wp2
        go_loopw [3, 4, 20] (fun _ _ vi wr => ∃ i : Nat, i ≤ n ∧ vi = .int .i64 i ∧ scan (ptE l) i = 0 ∧ Below w.heap.size w wr) (fun _ _ i _ => n - (intOf i).toNat)
        case atStart => exact ⟨0, by omega, rfl, rfl, Below.refl _ _⟩
        case round =>
          obtain ⟨i, hi, rfl, hsc, hbl⟩ := hrel
          have HB := Lib.hid hbl
          have HS := Lib.hid hsc
          by_cases hlt : i < n
          · obtain ⟨d0, d1, d2⟩ := HC.out i hlt
            replace d0 := (hbl.cell (p := ⟨b, off + i * 3, none⟩) hb).trans d0
            replace d1 := (hbl.cell (p := ⟨b, off + i * 3 + 1, none⟩) hb).trans d1
            replace d2 := (hbl.cell (p := ⟨b, off + i * 3 + 2, none⟩) hb).trans d2
            have HP : Hid (ptE l i = (if far (pt l i).x || far (pt l i).y then 3 else if decide (0 < i) && (!(pt l i).on && !(pt l (i - 1)).on) then 4 else 0)) := rfl
            clear hbl hsc
            generalize pt l i = x at *
            obtain ⟨xx, xy, xo⟩ := x
            dsimp only at d0 d1 d2
            have HA : Hid (∀ e : Int, ptE l i = e → e ≠ 0 → scan (ptE l) n = e) := fun e h1 h2 => by rw [← h1]; exact scan_at hlt HS.out (by rw [h1]; exact h2)
            have HK : Hid (ptE l i = 0 → scan (ptE l) (i + 1) = 0) := fun h1 => by rw [scan_succ HS.out]; exact h1
            cases hx : far xx with
            | true =>
              have HX := Lib.hid (far_is hx)
              have HP3 : Hid (ptE l i = 3) := by unfold Hid; rw [HP.out, hx]; rfl
              clear hx
              go_wp2_with (refine (HX.out _).mono ?_; rintro e w' ⟨rfl, rfl⟩)
              go_ret
              exact ⟨endInt (by rw [HE.out, HA.out 3 HP3.out (by decide)]), HB.out.alloc HB.out.size _⟩
            | false =>
              have HX := Lib.hid (far_is hx)
              cases hy : far xy with
              | true =>
                have HY := Lib.hid (far_is hy)
                have HP3 : Hid (ptE l i = 3) := by unfold Hid; rw [HP.out, hx, hy]; rfl
                clear hx hy
                go_wp2_with (first | ((with_reducible refine (HX.out _).mono ?_); rintro e w' ⟨rfl, rfl⟩) | ((with_reducible refine (HY.out _).mono ?_); rintro e w' ⟨rfl, rfl⟩))
                go_ret
                exact ⟨endInt (by rw [HE.out, HA.out 3 HP3.out (by decide)]), HB.out.alloc HB.out.size _⟩
              | false =>
                have HY := Lib.hid (far_is hy)
                have HP4 : Hid (ptE l i = if decide (0 < i) && (!xo && !(pt l (i - 1)).on) then 4 else 0) := by unfold Hid; rw [HP.out, hx, hy]; rfl
                clear hx hy HP
                by_cases hi0 : 0 < i
                · cases xo with
                  | true =>
                    have HP0 : Hid (ptE l i = 0) := by unfold Hid; rw [HP4.out]; simp
                    go_wp2_with (first | ((with_reducible refine (HX.out _).mono ?_); rintro e w' ⟨rfl, rfl⟩) | ((with_reducible refine (HY.out _).mono ?_); rintro e w' ⟨rfl, rfl⟩))
                    go_roundw
                    case rel => exact ⟨i + 1, by omega, by go_num, HK.out HP0.out, HB.out.alloc HB.out.size _⟩
                    case measure => simp [intOf]; omega
                  | false =>
                    obtain ⟨j, rfl⟩ : ∃ j, i = j + 1 := ⟨i - 1, by omega⟩
                    obtain ⟨_, _, d5⟩ := HC.out j (by omega)
                    replace d5 := (HB.out.cell (p := ⟨b, off + j * 3 + 2, none⟩) hb).trans d5
                    replace d5 := (cell_lt wr (.cells #[.int .i64 xx, .int .i64 xy, .bool false] 64) ⟨b, off + j * 3 + 2, none⟩ (Nat.lt_of_lt_of_le hb HB.out.size)).trans d5
                    have HP5 : Hid (ptE l (j + 1) = if (pt l j).on = false then 4 else 0) := by unfold Hid; rw [HP4.out]; simp
                    clear HP4
                    generalize (pt l j).on = o at *
                    have e1 : (j : Int) + 1 - 1 = (j : Int) := by omega
                    cases o with
                    | true =>
                      go_wp2_with (first | ((with_reducible refine (HX.out _).mono ?_); rintro e w' ⟨rfl, rfl⟩) | ((with_reducible refine (HY.out _).mono ?_); rintro e w' ⟨rfl, rfl⟩))
                      go_roundw
                      case rel => exact ⟨j + 1 + 1, by omega, by go_num, HK.out (by rw [HP5.out]; simp), HB.out.alloc HB.out.size _⟩
                      case measure => simp [intOf]; omega
                    | false =>
                      go_wp2_with (first | ((with_reducible refine (HX.out _).mono ?_); rintro e w' ⟨rfl, rfl⟩) | ((with_reducible refine (HY.out _).mono ?_); rintro e w' ⟨rfl, rfl⟩))
                      go_ret
                      exact ⟨endInt (by rw [HE.out, HA.out 4 (by rw [HP5.out]; simp) (by decide)]), HB.out.alloc HB.out.size _⟩
                · have HP0 : Hid (ptE l i = 0) := by unfold Hid; rw [HP4.out, decide_eq_false hi0]; simp
                  obtain rfl : i = 0 := by omega
                  rw [Nat.zero_mul, Nat.add_zero] at d0 d1 d2
                  go_wp2_with (first | ((with_reducible refine (HX.out _).mono ?_); rintro e w' ⟨rfl, rfl⟩) | ((with_reducible refine (HY.out _).mono ?_); rintro e w' ⟨rfl, rfl⟩))
                  go_roundw
                  case rel => exact ⟨1, by omega, by go_num, HK.out HP0.out, HB.out.alloc HB.out.size _⟩
                  case measure => simp [intOf]; omega
          · obtain rfl : i = n := by omega
            go_wp2
            go_ret
            exact ⟨endInt (by rw [HE.out, HS.out]), HB.out⟩
end Go.Proofs.YtefkglmdkjkbiaaDoor
