/- The walk of FoldPairsNest. -/
import Derived.Deep.QuietTactic
import Derived.BigQuiet
import Derived.Test.YtjcijogdcafloaaDoorPrint
import Derived.Test.YtjcijogdcafloaaDoorSizePile
import Derived.Test.YtjcijogdcafloaaDoorPairsW
namespace Go.Proofs.YtjcijogdcafloaaDoor
open Go.RowKit
theorem whole_pile {C R : Nat} {l : List Step} (v : Value) (w : World) (hI : Sv w v l) (hg : Good C R l) (hw : whole C R l) :
    Calls Tryd.prog 14 #[.agg #[.int .i64 (C : Int), .int .i64 (R : Int), v], .int .i64 (l.length : Nat), .int .i64 0, .int .i64 0] w (PilePost (endPile C R l) w) := by
  have hlen : (endPile C R l).length ≤ 100000 := by have := end_length hg.ok hw.1 hw.2; have := hg.cr; omega
  exact place_pile C R (l.length : Nat) v l 0 0 w hI (foldAll (flatS C R) l) (by rw [hw.1]; omega) (by rw [hw.2]; omega) (by rw [hw.1]; omega) (by rw [hw.2]; omega) hlen fun w' hb => by
    have := after_good hg (SlM.later hI hb) (Nat.le_refl _)
    rw [List.take_length] at this; exact this
/-- What is known of entry i. -/
def EntOk (l : List Leaf) (P : List Int) (i : Nat) : Prop := P.getD i 0 < 0 ∨ ∃ j : Nat, P.getD i 0 = j ∧ PairOk l P i j
theorem near_cases {a b : Int} (h : a * a + b * b = 1) : (a = 0 ∧ b = 1) ∨ (a = 0 ∧ b = -1) ∨ (a = 1 ∧ b = 0) ∨ (a = -1 ∧ b = 0) := by
  have ha : a * a ≥ 0 := by rcases Int.le_total 0 a with h | h; exact Int.mul_nonneg h h; exact Int.mul_nonneg_of_nonpos_of_nonpos h h
  have hb : b * b ≥ 0 := by rcases Int.le_total 0 b with h | h; exact Int.mul_nonneg h h; exact Int.mul_nonneg_of_nonpos_of_nonpos h h
  have sq : ∀ x : Int, x * x ≤ 1 → x = 0 ∨ x = 1 ∨ x = -1 := fun x hx => by
    rcases Int.le_total 0 x with h | h
    · have : x < 2 := by
        rcases Int.lt_or_le x 2 with h2 | h2
        · exact h2
        · have := Int.mul_le_mul h2 h2 (by omega) (by omega); omega
      omega
    · have : -2 < x := by
        rcases Int.lt_or_le (-2) x with h2 | h2
        · exact h2
        · have := Int.mul_le_mul (show (2 : Int) ≤ -x by omega) (show (2 : Int) ≤ -x by omega) (by omega) (by omega)
          rw [Int.neg_mul_neg] at this; omega
      omega
  rcases sq a (by omega) with rfl | rfl | rfl <;> rcases sq b (by omega) with rfl | rfl | rfl <;> simp_all
set_option maxRecDepth 100000 in
set_option maxHeartbeats 8000000 in
theorem nest_any (C R : Int) (v : Value) (l : List Step) (w : World) (hI : Sv w v l) :
    Calls Tryd.prog 7 #[.agg #[.int .i64 C, .int .i64 R, v]] w fun e w' => e = .returned (.bool true) ∧ Below w.heap.size w w' := by
  have HI := Lib.hid hI
  obtain ⟨Av, cv, ev⟩ := SlM.form HI.out
  have hcapn := (SlM.caps (ev ▸ HI.out)).2.1
  have hmax := (SlM.caps (ev ▸ HI.out)).2.2
  unfold maxLen at hmax
  have HF := Lib.hid folds_any
  have hb0 := Lib.hid ((Below.refl w.heap.size w).alloc (Nat.le_refl _) (Obj.cells #[.int .i64 C, .int .i64 R, v] 24))
  have hbl0 := Lib.hid (Blk.new w 24 #[.int .i64 C, .int .i64 R, v])
  by_cases hz : foldedZ C R l = 0
  · obtain ⟨c, r, rfl, rfl, hg, hw⟩ := foldedZ_zero hz
    have hPr : Hid (∀ w', Below w.heap.size w w' → Calls Tryd.prog 18 #[.agg #[.int .i64 (c : Int), .int .i64 (r : Int), v]] w' (PairsPost (pairsL (l.length == 0) (lastSide l) (endPile c r l)) w')) := fun w' hb => pairs_ok c r v l w' (SlM.later HI.out hb) hg hw
    have hPi : Hid (∀ w', Below w.heap.size w w' → Calls Tryd.prog 14 #[.agg #[.int .i64 (c : Int), .int .i64 (r : Int), v], .int .i64 (l.length : Nat), .int .i64 0, .int .i64 0] w' (PilePost (endPile c r l) w')) := fun w' hb => whole_pile v w' (SlM.later HI.out hb) hg hw
    have hin : Hid (∀ x ∈ endPile c r l, x.c < c ∧ x.r < r) := fun x hx => end_in hw.1 hw.2 hx
    obtain ⟨s0, s1⟩ := lastSide_range hg.ok
    have hEnt : Hid (∀ i, i < (endPile c r l).length → EntOk (endPile c r l) (pairsL (l.length == 0) (lastSide l) (endPile c r l)) i) := fun i hi => by
      rcases (show (pairsL (l.length == 0) (lastSide l) (endPile c r l)).getD i 0 < 0 ∨ 0 ≤ (pairsL (l.length == 0) (lastSide l) (endPile c r l)).getD i 0 by omega) with h | h
      · exact .inl h
      · exact .inr (pairs_law (fun x hx => end_in hw.1 hw.2 hx) (fun a b ha hb => end_place hg.ok hw.1 hw.2 ha hb) s0 s1 (red_end hg.ok hw.1 hw.2 _ _) hi h)
    have hPl : (pairsL (l.length == 0) (lastSide l) (endPile c r l)).length = (endPile c r l).length := by unfold pairsL; rw [List.length_map]
    have hRg : Hid (∀ i, -1 ≤ (pairsL (l.length == 0) (lastSide l) (endPile c r l)).getD i 0 ∧ (pairsL (l.length == 0) (lastSide l) (endPile c r l)).getD i 0 ≤ 1000) := fun i => by
      have hlen : (endPile c r l).length ≤ 1000 := by have := end_length hg.ok hw.1 hw.2; have := hg.cr; omega
      by_cases hi : i < (endPile c r l).length
      · rw [pairsL_get hi]; unfold pairIx
        split
        · have := idxOf_range (isAt (-1) (endPile c r l)[i].r) (endPile c r l); omega
        · have := idxOf_range (isAt (tgtC (lastSide l) (endPile c r l)[i]) (tgtR (lastSide l) (endPile c r l)[i])) (endPile c r l); omega
      · rw [List.getD_eq_getElem?_getD, List.getElem?_eq_none (by rw [hPl]; omega)]; simp
    have hlen32 : (endPile c r l).length ≤ 32 := by have := end_length hg.ok hw.1 hw.2; have := hg.cr; omega
    have hc8 := hg.c8
    have hr8 := hg.r8
    generalize pairsL (l.length == 0) (lastSide l) (endPile c r l) = P at *
    generalize endPile c r l = pile at *
    generalize hnp : pile.length = np at *
    have HNp := Lib.hid hnp
    have HPl := Lib.hid hPl
    clear hg hw hz hI s0 s1 hnp hPl
    generalize l.length = n at *
    subst ev
    go_enter Tryd.func7, Tryd.ntmps7
    go_wp2_with fail
    refine (HF.out _).mono ?_; rintro e w1 ⟨rfl, hb1⟩
    have hx0 := hbl0.out.below hb1 hbl0.out.lt
    have HB1 := Lib.hid (hb0.out.trans (hb1.mono hb0.out.size))
    have c0 : w1.cell? ⟨w.heap.size, 0, none⟩ = some (.int .i64 (c : Int)) := hx0.cell 0
    have c1 : w1.cell? ⟨w.heap.size, 1, none⟩ = some (.int .i64 (r : Int)) := hx0.cell 1
    have c2 : w1.cell? ⟨w.heap.size, 2, none⟩ = some (.slice Av n cv) := hx0.cell 2
    have hlt0 := hx0.lt
    have HX0 := Lib.hid hx0
    clear hb1 hx0
    go_wp2_with fail
    refine (hPr.out _ HB1.out).mono ?_; rintro e w2 ⟨vP, rfl, ho, hb2⟩
    rw [HPl.out] at ho
    obtain ⟨AP, cP, eP⟩ := own_form ho
    subst eP
    have hsl := Sl.mono (ok' := fun b => b < w2.heap.size) (Sl.of_own ho) fun _ hb _ => hb
    have HX2 := Lib.hid (HX0.out.below hb2 HX0.out.lt)
    have HB2 := Lib.hid (HB1.out.trans (hb2.mono HB1.out.size))
    clear c0 c1 c2
    have c0 : w2.cell? ⟨w.heap.size, 0, none⟩ = some (.int .i64 (c : Int)) := HX2.out.cell 0
    have c1 : w2.cell? ⟨w.heap.size, 1, none⟩ = some (.int .i64 (r : Int)) := HX2.out.cell 1
    have c2 : w2.cell? ⟨w.heap.size, 2, none⟩ = some (.slice Av n cv) := HX2.out.cell 2
    have hlt2 := HX2.out.lt
    have HSl := Lib.hid hsl
    clear ho hb2 hsl
    go_wp2_with fail
    refine (hPi.out _ HB2.out).mono ?_; rintro e w3 ⟨vL, rfl, hlv, hb3⟩
    have HLv := Lib.hid hlv
    have HSl3 := Lib.hid (HSl.out.later hb3)
    have HB3 := Lib.hid (HB2.out.trans (hb3.mono HB2.out.size))
    obtain ⟨AL, cL, eL⟩ := SlM.form hlv
    rw [HNp.out] at eL
    subst eL
    clear c0 c1 c2 hlv hb3
    go_wp2
    go_loopw [43] (fun vi wr => ∃ i k : Nat, i ≤ np ∧ vi = .int .i64 i ∧ wr = w3.drewN k) (fun i _ => np - (intOf i).toNat)
    case atStart => exact ⟨0, 0, by omega, rfl, rfl⟩
    case round =>
      obtain ⟨i, k, hi, rfl, rfl⟩ := hrel
      by_cases hlt : i < np
      · obtain ⟨bP, oP, eP, hbP, hcP⟩ := Sl.plainA HSl3.out (by unfold ints; rw [List.length_map, HPl.out]; omega)
        obtain ⟨bL, oL, cL', eL, _, hbL, _, _, hcL⟩ := (HLv.out).cells4 (by rw [HNp.out]; omega)
        rw [HNp.out] at eL
        injection eL with eA _ eC
        subst eP eA eC
        have hPc : Hid (∀ m, m < np → w3.cell? ⟨bP, oP + m, none⟩ = some (.int .i64 (P.getD m 0))) := fun m hm => hcP m _ (by unfold ints; rw [List.getElem?_map, List.getD_eq_getElem?_getD, List.getElem?_eq_getElem (by rw [HPl.out]; exact hm)]; rfl)
        have hLc := Lib.hid hcL
        have hE := hEnt.out i hlt
        have ci := hPc.out i hlt
        clear hcP hcL
        rcases hE with hneg | ⟨j, ej, hok⟩
        · generalize P.getD i 0 = pi at *
          go_wp2
          go_roundw
          case rel => exact ⟨i + 1, k, by omega, by go_num, rfl⟩
          case measure => simp [intOf]; omega
        · rw [ej] at ci
          have hjl : j < np := by have := hok.lt; rw [HNp.out] at this; exact this
          have cj := hPc.out j hjl
          rw [hok.back] at cj
          have hne := hok.ne
          have hnear := hok.near
          have hNest : Hid (∀ m, (i < m ∧ m < j) ∨ (j < m ∧ m < i) → P.getD m 0 < 0 ∨ ((min i j : Nat) : Int) ≤ P.getD m 0 ∧ P.getD m 0 ≤ ((max i j : Nat) : Int)) := hok.nest
          obtain ⟨a0, a1, a2, a3⟩ := hLc.out i (by rw [HNp.out]; exact hlt)
          obtain ⟨b0, b1, b2, b3⟩ := hLc.out j (by rw [HNp.out]; exact hjl)
          obtain ⟨i1, i2⟩ := hin.out (lf pile i) (by rw [lf_eq pile (by rw [HNp.out]; exact hlt)]; exact List.getElem_mem _)
          obtain ⟨j1, j2⟩ := hin.out (lf pile j) (by rw [lf_eq pile (by rw [HNp.out]; exact hjl)]; exact List.getElem_mem _)
          have hnr : ((lf pile i).c : Int) - (lf pile j).c = 0 ∧ ((lf pile i).r : Int) - (lf pile j).r = 1 ∨ ((lf pile i).c : Int) - (lf pile j).c = 0 ∧ ((lf pile i).r : Int) - (lf pile j).r = -1 ∨ ((lf pile i).c : Int) - (lf pile j).c = 1 ∧ ((lf pile i).r : Int) - (lf pile j).r = 0 ∨ ((lf pile i).c : Int) - (lf pile j).c = -1 ∧ ((lf pile i).r : Int) - (lf pile j).r = 0 := near_cases hnear
          clear hnear hok ej a2 a3 b2 b3
          generalize lf pile i = x at *
          generalize lf pile j = y at *
          obtain ⟨xc, xr, xf, xg⟩ := x
          obtain ⟨yc, yr, yf, yg⟩ := y
          dsimp only at a0 a1 b0 b1 i1 i2 j1 j2 hnr
          have t1 : decide ((np : Int) ≤ (j : Int)) = false := by simp; omega
          have t2 : decide ((j : Int) < 0) = false := by simp
          have t3 : ((i : Int) == (j : Int)) = false := by rw [beq_eq_false_iff_ne]; omega
          have t4 : decide (i < np) = true := by simpa using hlt
          have t5 : decide (j < np) = true := by simpa using hjl
          rcases hnr with ⟨hx, hy⟩ | ⟨hx, hy⟩ | ⟨hx, hy⟩ | ⟨hx, hy⟩
          all_goals
            go_upto_region 15 with (fail)
            go_quiet (fail)
            clear hx hy a0 a1 b0 b1 hLc
            rcases (show i < j ∨ j < i by omega) with hij | hij
            · go_wp2
              go_loop [11] (fun v => ∃ m : Nat, i < m ∧ m ≤ j ∧ v = .int .i64 m) (fun v => j - (intOf v).toNat)
              case atStart => exact ⟨i + 1, by omega, by omega, by go_num⟩
              case round =>
                obtain ⟨m, hm1, hm2, rfl⟩ := hrel
                by_cases hlm : m < j
                · have cm := hPc.out m (by omega)
                  have hq := hNest.out m (.inl ⟨hm1, hlm⟩)
                  have t6 : decide (m < np) = true := by simp; omega
                  rw [Nat.min_eq_left (by omega), Nat.max_eq_right (by omega)] at hq
                  generalize P.getD m 0 = q at *
                  rcases hq with hq | ⟨hq1, hq2⟩
                  all_goals
                    go_wp2
                    go_round
                    case rel => exact ⟨m + 1, by omega, by omega, by go_num⟩
                    case measure => simp [intOf]; omega
                · obtain rfl : m = j := by omega
                  go_wp2
                  go_roundw
                  case rel => exact ⟨i + 1, k + nq, by omega, by go_num, rfl⟩
                  case measure => simp [intOf]; omega
            · go_wp2
              go_loop [11] (fun v => ∃ m : Nat, j < m ∧ m ≤ i ∧ v = .int .i64 m) (fun v => i - (intOf v).toNat)
              case atStart => exact ⟨j + 1, by omega, by omega, by go_num⟩
              case round =>
                obtain ⟨m, hm1, hm2, rfl⟩ := hrel
                by_cases hlm : m < i
                · have cm := hPc.out m (by omega)
                  have hq := hNest.out m (.inr ⟨hm1, hlm⟩)
                  have t6 : decide (m < np) = true := by simp; omega
                  rw [Nat.min_eq_right (by omega), Nat.max_eq_left (by omega)] at hq
                  generalize P.getD m 0 = q at *
                  rcases hq with hq | ⟨hq1, hq2⟩
                  all_goals
                    go_wp2
                    go_round
                    case rel => exact ⟨m + 1, by omega, by omega, by go_num⟩
                    case measure => simp [intOf]; omega
                · obtain rfl : m = i := by omega
                  go_wp2
                  go_roundw
                  case rel => exact ⟨m + 1, k + nq, by omega, by go_num, rfl⟩
                  case measure => simp [intOf]; omega
      · obtain rfl : i = np := by omega
        go_wp2
        go_ret
        exact ⟨rfl, below_drewN HB3.out k⟩
  · have hPr : Hid (∀ w', Below w.heap.size w w' → Calls Tryd.prog 18 #[.agg #[.int .i64 C, .int .i64 R, v]] w' (PairsErr (foldedZ C R l) w')) := fun w' hb => pairs_bad C R v l w' (SlM.later HI.out hb) hz
    have hz1 : (foldedZ C R l != 0) = true := by simpa using hz
    generalize foldedZ C R l = z at *
    generalize l.length = n at *
    clear hI hz
    subst ev
    go_enter Tryd.func7, Tryd.ntmps7
    go_wp2_with fail
    refine (HF.out _).mono ?_; rintro e w1 ⟨rfl, hb1⟩
    have hx0 := hbl0.out.below hb1 hbl0.out.lt
    have HB1 := Lib.hid (hb0.out.trans (hb1.mono hb0.out.size))
    have c0 : w1.cell? ⟨w.heap.size, 0, none⟩ = some (.int .i64 C) := hx0.cell 0
    have c1 : w1.cell? ⟨w.heap.size, 1, none⟩ = some (.int .i64 R) := hx0.cell 1
    have c2 : w1.cell? ⟨w.heap.size, 2, none⟩ = some (.slice Av n cv) := hx0.cell 2
    clear hb1 hx0
    go_wp2_with fail
    refine (hPr.out _ HB1.out).mono ?_; rintro e w2 ⟨rfl, hb2⟩
    have HB2 := Lib.hid (HB1.out.trans (hb2.mono HB1.out.size))
    clear hb2 c0 c1 c2
    go_wp2
    go_ret
    exact ⟨rfl, HB2.out⟩
end Go.Proofs.YtjcijogdcafloaaDoor
