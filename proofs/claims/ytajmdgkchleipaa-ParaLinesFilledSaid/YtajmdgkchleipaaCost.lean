/- The walk of cost: whether a line is permitted, and its cost. -/
import Derived.Test.YtajmdgkchleipaaFixed
namespace Go.Proofs.Ytajmdgkchleipaa
open Go.RowKit Para
set_option maxHeartbeats 4000000 in
theorem cost_any (l : List Part) (g c i k : Nat) (s : Shape) (w : World) (hl : l.length ≤ 256) (hP : Parts w g l) (hok : AllOk l) (hs : ShapeOk s) (hik : i < k) (hk : k ≤ l.length) :
    Calls Try.prog 12 #[.slice (some ⟨g, 0, none⟩) l.length c, .int .i64 (i : Int), .int .i64 (k : Int), .agg #[.int .i64 s.W, .int .i64 s.S, .int .i64 s.Lo, .int .i64 s.Mo, .int .i64 s.H, .int .i64 s.C]] w
      fun e w' => (e = .returned (.tuple #[.int .i64 (if permitted s (l.drop i) (k - i) = true then costOf s (l.drop i) (k - i) else 0), .bool (permitted s (l.drop i) (k - i))])) ∧ Below w.heap.size w w' := by
  obtain ⟨sW, sS, sLo, sMo, sH, sC⟩ := s
  have hs' := hs
  obtain ⟨W0, W1, L0, LS, SM, M1, H0, H1, C0, C1⟩ := hs'
  have hb0 := (Below.refl w.heap.size w).alloc (Nat.le_refl _) (Obj.cells #[Value.int .i64 sW, Value.int .i64 sS, Value.int .i64 sLo, Value.int .i64 sMo, Value.int .i64 sH, Value.int .i64 sC] 24)
  have hbox : ∀ j v, #[Value.int .i64 sW, Value.int .i64 sS, Value.int .i64 sLo, Value.int .i64 sMo, Value.int .i64 sH, Value.int .i64 sC][j]? = some v → (w.alloc (Obj.cells #[Value.int .i64 sW, Value.int .i64 sS, Value.int .i64 sLo, Value.int .i64 sMo, Value.int .i64 sH, Value.int .i64 sC] 24)).cell? ⟨w.heap.size, j, none⟩ = some v := fun j v hv => by
    rw [cell_of_row _ _ j _ _ _ (heap_alloc_new w _)]; exact hv
  have hF := fixed_any l g c i k _ _ hl (hP.later hb0) hok hs hik hk
  have hP1 := hP.later hb0
  have hsz : w.heap.size < (w.alloc (Obj.cells #[Value.int .i64 sW, Value.int .i64 sS, Value.int .i64 sLo, Value.int .i64 sMo, Value.int .i64 sH, Value.int .i64 sC] 24)).heap.size := by simp
  obtain ⟨b0, b1, b2, b3⟩ := fixTo_bd (hok.drop i) (k - i)
  dsimp only at *
  have hx0 : -600000 ≤ fixW ⟨sW, sS, sLo, sMo, sH, sC⟩ (l.drop i) (k - i) := by unfold fixW; split <;> (try dsimp only) <;> omega
  have hx1 : fixW ⟨sW, sS, sLo, sMo, sH, sC⟩ (l.drop i) (k - i) ≤ 18000000 := by unfold fixW; split <;> (try dsimp only) <;> omega
  have hy0 : 0 ≤ fixG (l.drop i) (k - i) := b2
  have hy1 : fixG (l.drop i) (k - i) ≤ 256 := by have : fixG (l.drop i) (k - i) = (fixTo (l.drop i) (k - i)).2 := rfl; omega
  have HPerm : Hid (permitted ⟨sW, sS, sLo, sMo, sH, sC⟩ (l.drop i) (k - i) = (!(decide (sW < fixW ⟨sW, sS, sLo, sMo, sH, sC⟩ (l.drop i) (k - i) + fixG (l.drop i) (k - i) * sLo)) && (decide (k = l.length) || !(decide (0 < fixG (l.drop i) (k - i))) || !(decide (fixW ⟨sW, sS, sLo, sMo, sH, sC⟩ (l.drop i) (k - i) + fixG (l.drop i) (k - i) * sMo < sW))))) := by
    unfold Hid permitted; rw [List.length_drop]; congr 3; rw [decide_eq_decide]; omega
  have HCost : Hid (costOf ⟨sW, sS, sLo, sMo, sH, sC⟩ (l.drop i) (k - i) = (if k = l.length ∧ 0 < sW - fixW ⟨sW, sS, sLo, sMo, sH, sC⟩ (l.drop i) (k - i) - fixG (l.drop i) (k - i) * sS then 0 else (sW - fixW ⟨sW, sS, sLo, sMo, sH, sC⟩ (l.drop i) (k - i) - fixG (l.drop i) (k - i) * sS) * (sW - fixW ⟨sW, sS, sLo, sMo, sH, sC⟩ (l.drop i) (k - i) - fixG (l.drop i) (k - i) * sS)) + (if (pt l (k - 1)).last = true then 0 else sC)) := by
    unfold Hid costOf off; rw [List.length_drop, pt_drop, show i + (k - i - 1) = k - 1 by omega]
    congr 2; rw [show (k - i = l.length - i) = (k = l.length) from propext (by omega)]
  have hy3 := hP1.c3 (k - 1) (by omega)
  have HBlk := Lib.hid hP1.lt
  clear b0 b1 b2 b3 hP hok hP1 hs
  generalize costOf ⟨sW, sS, sLo, sMo, sH, sC⟩ (l.drop i) (k - i) = co at *
  generalize permitted ⟨sW, sS, sLo, sMo, sH, sC⟩ (l.drop i) (k - i) = pe at *
  generalize fixW ⟨sW, sS, sLo, sMo, sH, sC⟩ (l.drop i) (k - i) = X at *
  generalize fixG (l.drop i) (k - i) = G at *
  generalize (pt l (k - 1)).last = la at *
  generalize l.length = n at *
  have g0 : 0 ≤ G * sLo := Int.mul_nonneg hy0 L0
  have g1 : G * sLo ≤ 256 * 65535 := Int.mul_le_mul hy1 (by omega) L0 (by omega)
  have g2 : 0 ≤ G * sS := Int.mul_nonneg hy0 (by omega)
  have g3 : G * sS ≤ 256 * 65535 := Int.mul_le_mul hy1 (by omega) (by omega) (by omega)
  have g4 : 0 ≤ G * sMo := Int.mul_nonneg hy0 (by omega)
  have g5 : G * sMo ≤ 256 * 65535 := Int.mul_le_mul hy1 (by omega) (by omega) (by omega)
  have q0 : 0 ≤ (sW - X - G * sS) * (sW - X - G * sS) := by
    rcases Int.le_total 0 (sW - X - G * sS) with h | h
    · exact Int.mul_nonneg h h
    · exact Int.mul_nonneg_of_nonpos_of_nonpos h h
  have q1 : (sW - X - G * sS) * (sW - X - G * sS) ≤ 40000000 * 40000000 := by
    rcases Int.le_total 0 (sW - X - G * sS) with h | h
    · exact Int.mul_le_mul (by omega) (by omega) h (by omega)
    · have : (sW - X - G * sS) * (sW - X - G * sS) = (-(sW - X - G * sS)) * (-(sW - X - G * sS)) := by rw [Int.neg_mul_neg]
      rw [this]; exact Int.mul_le_mul (by omega) (by omega) (by omega) (by omega)
  obtain ⟨q, rfl⟩ : ∃ q, k = q + 1 := ⟨k - 1, by omega⟩
  rw [Nat.add_sub_cancel] at hy3
  rw [show ((q + 1 : Nat) : Int) = (q : Int) + 1 from rfl] at hF ⊢
  have hfacts : Hid (∀ w1, Below (w.alloc (Obj.cells #[Value.int .i64 sW, Value.int .i64 sS, Value.int .i64 sLo, Value.int .i64 sMo, Value.int .i64 sH, Value.int .i64 sC] 24)).heap.size (w.alloc (Obj.cells #[Value.int .i64 sW, Value.int .i64 sS, Value.int .i64 sLo, Value.int .i64 sMo, Value.int .i64 sH, Value.int .i64 sC] 24)) w1 →
      w1.cell? ⟨w.heap.size, 0, none⟩ = some (.int .i64 sW) ∧ w1.cell? ⟨w.heap.size, 1, none⟩ = some (.int .i64 sS) ∧ w1.cell? ⟨w.heap.size, 2, none⟩ = some (.int .i64 sLo) ∧ w1.cell? ⟨w.heap.size, 3, none⟩ = some (.int .i64 sMo) ∧ w1.cell? ⟨w.heap.size, 5, none⟩ = some (.int .i64 sC) ∧
      w1.cell? ⟨g, q * 4 + 3, none⟩ = some (.bool la) ∧ Below w.heap.size w w1) := by
    intro w1 hb
    refine ⟨?_, ?_, ?_, ?_, ?_, ?_, hb0.trans (hb.mono hb0.size)⟩
    · exact (hb.cell (p := ⟨w.heap.size, 0, none⟩) hsz).trans (hbox 0 _ rfl)
    · exact (hb.cell (p := ⟨w.heap.size, 1, none⟩) hsz).trans (hbox 1 _ rfl)
    · exact (hb.cell (p := ⟨w.heap.size, 2, none⟩) hsz).trans (hbox 2 _ rfl)
    · exact (hb.cell (p := ⟨w.heap.size, 3, none⟩) hsz).trans (hbox 3 _ rfl)
    · exact (hb.cell (p := ⟨w.heap.size, 5, none⟩) hsz).trans (hbox 5 _ rfl)
    · exact (hb.cell (p := ⟨g, q * 4 + 3, none⟩) HBlk.out).trans hy3
  have HF := Lib.hid hF
  clear hF hbox hsz hb0 hy3 HBlk
  have hpe := HPerm.out
  have hco := HCost.out
  clear HPerm HCost
  by_cases hA : sW < X + G * sLo
  · obtain rfl : pe = false := by rw [hpe, decide_eq_true hA]; rfl
    clear hpe hco
    go_enter Try.func12, Try.ntmps12
    go_wp2_with fail
    refine HF.out.mono ?_; rintro e w1 ⟨rfl, hb1⟩
    obtain ⟨c0, c1, c2, c3, c5, cl, hbb⟩ := hfacts.out w1 hb1
    clear hb1
    go_wp2
    go_ret2
    exact ⟨rfl, hbb⟩
  · rw [decide_eq_false hA, Bool.not_false, Bool.true_and] at hpe
    have hA' : X + G * sLo ≤ sW := by omega
    by_cases hend : q + 1 = n
    · have hE : ((q : Int) + 1 == (n : Int)) = true := by rw [beq_iff_eq]; omega
      obtain rfl : pe = true := by rw [hpe, decide_eq_true hend]; rfl
      clear hpe hA
      by_cases ho : 0 < sW - X - G * sS
      · rw [if_pos ⟨hend, ho⟩] at hco
        clear hend
        cases la with
        | true =>
          obtain rfl : co = 0 := by rw [hco]; simp
          clear hco
          go_enter Try.func12, Try.ntmps12
          go_wp2_with fail
          refine HF.out.mono ?_; rintro e w1 ⟨rfl, hb1⟩
          obtain ⟨c0, c1, c2, c3, c5, cl, hbb⟩ := hfacts.out w1 hb1
          clear hb1
          go_wp2
          go_ret2
          exact ⟨rfl, hbb⟩
        | false =>
          obtain rfl : co = sC := by rw [hco]; simp
          clear hco
          go_enter Try.func12, Try.ntmps12
          go_wp2_with fail
          refine HF.out.mono ?_; rintro e w1 ⟨rfl, hb1⟩
          obtain ⟨c0, c1, c2, c3, c5, cl, hbb⟩ := hfacts.out w1 hb1
          clear hb1
          go_wp2
          go_ret2
          exact ⟨rfl, hbb⟩
      · rw [if_neg (fun h => ho h.2)] at hco
        have ho' : sW - X - G * sS ≤ 0 := by omega
        clear hend ho
        cases la with
        | true =>
          obtain rfl : co = (sW - X - G * sS) * (sW - X - G * sS) := by rw [hco]; simp
          clear hco
          go_enter Try.func12, Try.ntmps12
          go_wp2_with fail
          refine HF.out.mono ?_; rintro e w1 ⟨rfl, hb1⟩
          obtain ⟨c0, c1, c2, c3, c5, cl, hbb⟩ := hfacts.out w1 hb1
          clear hb1
          go_wp2
          go_ret2
          exact ⟨rfl, hbb⟩
        | false =>
          obtain rfl : co = (sW - X - G * sS) * (sW - X - G * sS) + sC := by rw [hco]; simp
          clear hco
          go_enter Try.func12, Try.ntmps12
          go_wp2_with fail
          refine HF.out.mono ?_; rintro e w1 ⟨rfl, hb1⟩
          obtain ⟨c0, c1, c2, c3, c5, cl, hbb⟩ := hfacts.out w1 hb1
          clear hb1
          go_wp2
          go_ret2
          exact ⟨rfl, hbb⟩
    · have hE : ((q : Int) + 1 == (n : Int)) = false := by rw [beq_eq_false_iff_ne]; omega
      rw [decide_eq_false hend, Bool.false_or] at hpe
      rw [if_neg (fun h => hend h.1)] at hco
      clear hA hend
      by_cases hG : 0 < G
      · rw [decide_eq_true hG, Bool.not_true, Bool.false_or] at hpe
        by_cases hM : X + G * sMo < sW
        · obtain rfl : pe = false := by rw [hpe, decide_eq_true hM]; rfl
          clear hpe hco
          go_enter Try.func12, Try.ntmps12
          go_wp2_with fail
          refine HF.out.mono ?_; rintro e w1 ⟨rfl, hb1⟩
          obtain ⟨c0, c1, c2, c3, c5, cl, hbb⟩ := hfacts.out w1 hb1
          clear hb1
          go_wp2
          go_ret2
          exact ⟨rfl, hbb⟩
        · obtain rfl : pe = true := by rw [hpe, decide_eq_false hM]; rfl
          have hM' : sW ≤ X + G * sMo := by omega
          clear hpe hM
          cases la with
          | true =>
            obtain rfl : co = (sW - X - G * sS) * (sW - X - G * sS) := by rw [hco]; simp
            clear hco
            go_enter Try.func12, Try.ntmps12
            go_wp2_with fail
            refine HF.out.mono ?_; rintro e w1 ⟨rfl, hb1⟩
            obtain ⟨c0, c1, c2, c3, c5, cl, hbb⟩ := hfacts.out w1 hb1
            clear hb1
            go_wp2
            go_ret2
            exact ⟨rfl, hbb⟩
          | false =>
            obtain rfl : co = (sW - X - G * sS) * (sW - X - G * sS) + sC := by rw [hco]; simp
            clear hco
            go_enter Try.func12, Try.ntmps12
            go_wp2_with fail
            refine HF.out.mono ?_; rintro e w1 ⟨rfl, hb1⟩
            obtain ⟨c0, c1, c2, c3, c5, cl, hbb⟩ := hfacts.out w1 hb1
            clear hb1
            go_wp2
            go_ret2
            exact ⟨rfl, hbb⟩
      · obtain rfl : pe = true := by rw [hpe, decide_eq_false hG]; rfl
        have hG' : G ≤ 0 := by omega
        clear hpe hG
        cases la with
        | true =>
          obtain rfl : co = (sW - X - G * sS) * (sW - X - G * sS) := by rw [hco]; simp
          clear hco
          go_enter Try.func12, Try.ntmps12
          go_wp2_with fail
          refine HF.out.mono ?_; rintro e w1 ⟨rfl, hb1⟩
          obtain ⟨c0, c1, c2, c3, c5, cl, hbb⟩ := hfacts.out w1 hb1
          clear hb1
          go_wp2
          go_ret2
          exact ⟨rfl, hbb⟩
        | false =>
          obtain rfl : co = (sW - X - G * sS) * (sW - X - G * sS) + sC := by rw [hco]; simp
          clear hco
          go_enter Try.func12, Try.ntmps12
          go_wp2_with fail
          refine HF.out.mono ?_; rintro e w1 ⟨rfl, hb1⟩
          obtain ⟨c0, c1, c2, c3, c5, cl, hbb⟩ := hfacts.out w1 hb1
          clear hb1
          go_wp2
          go_ret2
          exact ⟨rfl, hbb⟩
end Go.Proofs.Ytajmdgkchleipaa
