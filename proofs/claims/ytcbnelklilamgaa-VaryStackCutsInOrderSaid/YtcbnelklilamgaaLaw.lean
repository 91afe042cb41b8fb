/- The walk of the law on stacks of numbered copies. -/
import Derived.Test.YtcbnelklilamgaaStack
import Derived.Test.YtcbnelklilamgaaEqualInts
namespace Go.Proofs.Ytcbnelklilamgaa
open Go.RowKit
theorem stack_int (a b : Int) (w : World) (h : ∃ c n : Nat, a = c ∧ b = n ∧ 1 ≤ c ∧ c ≤ 4096 ∧ 1 ≤ n ∧ n ≤ 64) :
    Calls Try.prog 4 #[.int .i64 a, .int .i64 b] w fun e w' => ∃ ad cap vals, e = .returned (.tuple #[.slice (some ad) (sheets a.toNat b.toNat) cap, .int .i64 0]) ∧
      (∀ i u, vals[i]? = some u → w'.cell? (ad.add i) = some u) ∧ ad.block < w'.heap.size ∧ vals.length = sheets a.toNat b.toNat ∧ IsStack w' (fun _ => True) a.toNat b.toNat vals ∧ Below w.heap.size w w' := by
  obtain ⟨c, n, rfl, rfl, h1, h2, h3, h4⟩ := h
  refine (stack_any c n w h1 h2 h3 h4).mono fun e w' ⟨v, vals, he, hl, hs, hst, hb⟩ => ?_
  have hp : 0 < vals.length := by rw [hl]; unfold sheets; exact Nat.div_pos (by omega) (by omega)
  obtain ⟨ad, cap, rfl, _, hlt, hc⟩ := hs.open_ hp
  rw [hl] at he
  exact ⟨ad, cap, vals, he, hc, hlt, hl, hst, hb⟩
theorem law (a b : Int) (w : World) :
    Calls Try.prog 3 #[.int .i64 a, .int .i64 b] w fun e w' => e = .returned (.bool true) ∧ Below w.heap.size w w' := by
  go_enter Try.func3, Try.ntmps3
  go_wp2_with fail
  refine (stack_int 5 2 _ ⟨5, 2, rfl, rfl, by omega, by omega, by omega, by omega⟩).mono ?_; rintro e w1 ⟨ad0, cap0, vals0, rfl, hc0, hlt0, hl0, hst0, hb0⟩
  rw [show sheets (Int.toNat 5) (Int.toNat 2) = 3 from rfl] at hl0 ⊢
  have x2 : vals0[2]? = some (vals0[2]'(by omega)) := List.getElem?_eq_getElem (by omega)
  have y2 : w1.cell? ⟨ad0.block, ad0.off + 2, none⟩ = _ := hc0 2 _ x2
  have z2 := hst0 2 _ x2
  rw [show stRow (Int.toNat 5) (sheets (Int.toNat 5) (Int.toNat 2)) (Int.toNat 2) 2 = ints [3, 0] from rfl] at z2
  generalize vals0[2]'(by omega) = u2 at *
  obtain ⟨A2, cap2, rfl⟩ := z2.form
  have Z2 := Lib.hid z2
  clear x2 z2 hst0 hc0
  go_wp2_with fail
  refine (equal_ints _ _ [3, 0] [3, 0] _ (fun _ => True) (fun _ => True) ?_ ?_).mono ?_
  · exact Z2.out.alloc _
  · refine ⟨_, 2, rfl, by simp [ints], by simp [maxLen], fun _ => ⟨_, rfl, trivial, by simp, fun i u hu => ?_⟩⟩
    rw [add_plain, Nat.zero_add, cell_of_row _ _ i _ _ _ (heap_alloc_new w1 _)]
    simpa [ints] using hu
  rintro e w' ⟨rfl, q, rfl⟩
  have hb2 : Below w.heap.size w ((w1.alloc (Obj.cells #[Value.int IntKind.i64 3, Value.int IntKind.i64 0] 3)).drewN q) := below_drewN (hb0.alloc hb0.size _) q
  generalize (w1.alloc (Obj.cells #[Value.int IntKind.i64 3, Value.int IntKind.i64 0] 3)).drewN q = w2 at *
  have HB := Lib.hid hb2
  clear hb2 y2 Z2 hb0 hlt0 hl0
  go_wp2_with fail
  refine (within_range _ _ _ _ (by omega) (by omega) (by omega)).mono ?_; rintro e w' ⟨c, hc0, hc1, rfl, rfl⟩
  go_wp2_with fail
  refine (within_range _ _ _ _ (by omega) (by omega) (by omega)).mono ?_; rintro e w' ⟨n, hn0, hn1, rfl, rfl⟩
  obtain ⟨c, rfl⟩ := Int.eq_ofNat_of_zero_le (show 0 ≤ c by omega)
  obtain ⟨n, rfl⟩ := Int.eq_ofNat_of_zero_le (show 0 ≤ n by omega)
  go_wp2_with fail
  refine (stack_int _ _ _ ⟨c, n, rfl, rfl, by omega, by omega, by omega, by omega⟩).mono ?_; rintro e w1 ⟨ad, cap, vals, rfl, hcell, hlt, hl, hst, hb⟩
  rw [Int.toNat_natCast, Int.toNat_natCast] at hl hst ⊢
  have hs : ((c : Int) + (n : Int) - 1) / (n : Int) = ((sheets c n : Nat) : Int) := by
    unfold sheets; rw [Int.natCast_ediv]; congr 1; omega
  have hs1 : sheets c n ≤ 4160 := Nat.le_trans (Nat.div_le_self _ _) (by omega)
  have hs0 : 0 < sheets c n := by unfold sheets; exact Nat.div_pos (by omega) (by omega)
  have HCov : Hid (c ≤ n * sheets c n) := by
    unfold Hid sheets
    have := Nat.div_add_mod (c + n - 1) n
    have := Nat.mod_lt (c + n - 1) (show 0 < n by omega)
    omega
  have hb2 : Below w.heap.size w w1 := HB.out.trans (hb.mono HB.out.size)
  have HB1 := Lib.hid hb2
  clear hb2 hb HB
  unfold IsStack at hst
  generalize sheets c n = m at *
  have HS := Lib.hid hs
  have HC := Lib.hid hcell
  have HT := Lib.hid hst
  have HL := Lib.hid hl
  clear hcell hst hl
  go_wp2_with fail
  clear hs
  go_loop [9, 56] (fun vx vp => ∃ (p : Nat) (x : Int), p ≤ n ∧ vp = .int .i64 p ∧ vx = .int .i64 x ∧ x = ((min (p * m) c + 1 : Nat) : Int)) (fun _ p => n - (intOf p).toNat)
  case atStart => exact ⟨0, 1, by omega, rfl, rfl, by simp⟩
  case round =>
    obtain ⟨p, x, hpn, rfl, rfl, hx⟩ := hrel
    have HX := Lib.hid hx
    clear hx
    by_cases hp : p < n
    · go_wp2
      go_loop [9, 61] (fun vx vs => ∃ (s : Nat) (x : Int), s ≤ m ∧ vs = .int .i64 s ∧ vx = .int .i64 x ∧ x = ((min (p * m + s) c + 1 : Nat) : Int)) (fun _ s => m - (intOf s).toNat)
      case atStart => exact ⟨0, x, by omega, rfl, rfl, HX.out⟩
      case round =>
        obtain ⟨s, x, hsm, rfl, rfl, hx⟩ := hrel
        clear HX
        by_cases hs : s < m
        · have hv : vals[s]? = some (vals[s]'(by rw [HL.out]; exact hs)) := List.getElem?_eq_getElem _
          have y := HC.out s _ hv
          have z := HT.out s _ hv
          generalize vals[s]'(by rw [HL.out]; exact hs) = u at *
          clear hv
          have hlen : (stRow c m n s).length = n := by simp [stRow]
          obtain ⟨ad2, cap2, rfl, _, _, c2⟩ := z.open_ (by rw [hlen]; omega)
          have y2 := c2 p (.int .i64 (st c m p s)) (by simp [stRow, hp])
          rw [hlen] at y
          clear c2 z hlen
          by_cases hc : c < p * m + s + 1
          · have e1 : st c m p s = 0 := by unfold st; rw [if_pos (by omega)]
            rw [e1] at y2
            obtain rfl : x = (c : Int) + 1 := by rw [hx]; omega
            have HE : Hid ((c : Int) + 1 = ((min (p * m + (s + 1)) c + 1 : Nat) : Int)) := by unfold Hid; omega
            clear hx e1
            go_wp2
            go_round
            case rel => exact ⟨s + 1, _, by omega, by go_num, rfl, HE.out⟩
            case measure => simp [intOf]; omega
          · have e1 : st c m p s = ((p * m + s + 1 : Nat) : Int) := by unfold st; rw [if_neg (by omega)]
            obtain rfl : x = ((p * m + s + 1 : Nat) : Int) := by rw [hx]; omega
            rw [e1] at y2
            have HE : Hid (((p * m + s + 1 : Nat) : Int) + 1 = ((min (p * m + (s + 1)) c + 1 : Nat) : Int)) := by unfold Hid; omega
            have hk : p * m + s + 1 ≤ c := by omega
            clear hx e1
            generalize hkk : p * m + s + 1 = k at *
            have HK := Lib.hid hkk
            have k1 : 1 ≤ k := by omega
            have hk0 : ((k : Int) == 0) = false := by rw [beq_eq_false_iff_ne]; omega
            have hk1 : ((k : Int) != 0) = true := by rw [bne_iff_ne]; omega
            clear hkk hc
            go_wp2
            go_round
            case rel => exact ⟨s + 1, _, by omega, by go_num, rfl, by rw [HE.out, ← HK.out]; rfl⟩
            case measure => simp [intOf]; omega
        · obtain rfl : s = m := by omega
          have HX := Lib.hid hx
          clear hx
          go_wp2
          go_round
          case rel => exact ⟨p + 1, x, by omega, by go_num, rfl, by rw [HX.out, Nat.add_mul, Nat.one_mul]⟩
          case measure => simp [intOf]; omega
    · obtain rfl : p = n := by omega
      obtain rfl : x = (c : Int) + 1 := by rw [HX.out]; have := HCov.out; rw [Nat.min_eq_right this]; simp
      clear HX
      go_wp2
      go_ret
      exact ⟨rfl, HB1.out⟩
end Go.Proofs.Ytcbnelklilamgaa
