/- The walk of Check: which words and shapes are accepted. -/
import Derived.Test.YtajmdgkchleipaaFlat
namespace Go.Proofs.Ytajmdgkchleipaa
open Go.RowKit Para
structure WdGood (x : Wd) : Prop where
  ok : WdOk x
  pr : ∀ i, i < x.parts.length → 0 ≤ x.parts.getD i 0 ∧ x.parts.getD i 0 ≤ 65535
  jr : ∀ i, i < x.joins.length → -2047 ≤ x.joins.getD i 0 ∧ x.joins.getD i 0 ≤ 2047
structure Good (ws : List Wd) (s : Shape) : Prop where
  n : ws.length ≤ 128
  all : ∀ i, i < ws.length → WdGood (wdAt ws i)
  tot : ∀ i, i ≤ ws.length → (flatW (ws.take i)).length ≤ 256
  sh : ShapeOk s
def ChkPost (G : Prop) (w : World) (e : Ending) (w' : World) : Prop := ∃ z : Int, e = .returned (.int .i64 z) ∧ (z = 0 ↔ G) ∧ Below w.heap.size w w'
theorem chk_bad {G : Prop} {w w' : World} {z : Int} (hz : z ≠ 0) (hG : ¬ G) (hb : Below w.heap.size w w') : ChkPost G w (.returned (.int .i64 z)) w' := ⟨z, rfl, ⟨fun h => absurd h hz, fun h => absurd h hG⟩, hb⟩
theorem chk_ok {G : Prop} {w w' : World} (hG : G) (hb : Below w.heap.size w w') : ChkPost G w (.returned (.int .i64 0)) w' := ⟨0, rfl, ⟨fun _ => hG, fun _ => rfl⟩, hb⟩
set_option maxHeartbeats 4000000 in
set_option maxRecDepth 100000 in
theorem check_words (b off c : Nat) (ws : List Wd) (s : Shape) (w : World) (hW : WordsIn w b off ws) (hn : ws.length ≤ 128) :
    Calls Try.prog 10 #[.slice (some ⟨b, off, none⟩) ws.length c, .agg #[.int .i64 s.W, .int .i64 s.S, .int .i64 s.Lo, .int .i64 s.Mo, .int .i64 s.H, .int .i64 s.C]] w (ChkPost (Good ws s) w) := by
  obtain ⟨sW, sS, sLo, sMo, sH, sC⟩ := s
  dsimp only
  generalize hG : Good ws ⟨sW, sS, sLo, sMo, sH, sC⟩ = G
  have HG := Lib.hid hG
  have HW := Lib.hid hW
  clear hW hG
  generalize hnn : ws.length = n at *
  have HN := Lib.hid hnn
  clear hnn
  go_enter Try.func10, Try.ntmps10
  go_wp2
  go_loopw [5, 17] (fun vt vi wr => ∃ j : Nat, j ≤ n ∧ vi = .int .i64 j ∧ vt = .int .i64 ((flatW (ws.take j)).length : Nat) ∧ (∀ i, i ≤ j → (flatW (ws.take i)).length ≤ 256) ∧ (∀ i, i < j → WdGood (wdAt ws i)) ∧ Below w.heap.size w wr ∧
    Blk wr w.heap.size 24 #[.int .i64 sW, .int .i64 sS, .int .i64 sLo, .int .i64 sMo, .int .i64 sH, .int .i64 sC]) (fun _ i _ => n - (intOf i).toNat)
  case atStart => exact ⟨0, by omega, rfl, by simp [flatW], fun i hi => by simp [show i = 0 by omega, flatW], fun i hi => by omega, (Below.refl _ _).alloc (Nat.le_refl _) _, Blk.new _ _ _⟩
  case round =>
    obtain ⟨j, hj, rfl, rfl, htot, hall, hb, hB⟩ := hrel
    by_cases hlt : j < n
    · obtain ⟨A, cA, Bq, cB, h1, h2, h3, h4⟩ := HW.out.cell j (by rw [HN.out]; exact hlt)
      have g1 := (hb.cell (p := ⟨b, off + j * 2, none⟩) HW.out.lt).trans h1
      have g2 := (hb.cell (p := ⟨b, off + j * 2 + 1, none⟩) HW.out.lt).trans h2
      have HS : Hid ((flatW (ws.take (j + 1))).length = (flatW (ws.take j)).length + (wdAt ws j).parts.length) := by
        unfold Hid; rw [flatW_succ ws j (by rw [HN.out]; exact hlt), List.length_append]; simp [wordParts, partsTo]
      have hT := htot j (Nat.le_refl _)
      have HIN : Hid (G → WdGood (wdAt ws j) ∧ (flatW (ws.take (j + 1))).length ≤ 256) := fun g => by
        rw [← HG.out] at g; exact ⟨g.all j (by rw [HN.out]; exact hlt), g.tot (j + 1) (by rw [HN.out]; omega)⟩
      have HTot := Lib.hid htot
      have HAll := Lib.hid hall
      have HB := Lib.hid hb
      have HBk := Lib.hid hB
      obtain ⟨hpm, hjm⟩ := HW.out.big j (by rw [HN.out]; exact hlt)
      generalize hx : wdAt ws j = x at *
      have HCP : Hid (∀ wi, Below w.heap.size w wi → ∀ i, i < x.parts.length → ∃ bP oP, A = some ⟨bP, oP, none⟩ ∧ wi.cell? ⟨bP, oP + i, none⟩ = some (.int .i64 (x.parts.getD i 0))) := fun wi hb i hi => by
        obtain ⟨bP, oP, hA, hblkP, hcP⟩ := h3.plainA (by rw [ints_length]; omega)
        exact ⟨bP, oP, hA, (hb.cell (p := ⟨bP, oP + i, none⟩) hblkP).trans (hcP i _ (ints_get hi))⟩
      have HCJ : Hid (∀ wi, Below w.heap.size w wi → ∀ i, i < x.joins.length → ∃ bP oP, Bq = some ⟨bP, oP, none⟩ ∧ wi.cell? ⟨bP, oP + i, none⟩ = some (.int .i64 (x.joins.getD i 0))) := fun wi hb i hi => by
        obtain ⟨bP, oP, hA, hblkP, hcP⟩ := h4.plainA (by rw [ints_length]; omega)
        exact ⟨bP, oP, hA, (hb.cell (p := ⟨bP, oP + i, none⟩) hblkP).trans (hcP i _ (ints_get hi))⟩
      clear htot hall hb hB h1 h2 h3 h4
      by_cases hp0 : x.parts.length = 0
      · have e0 : ((x.parts.length : Int) == 0) = true := by rw [beq_iff_eq]; omega
        have HX : Hid (¬ G) := fun g => by have := (HIN.out g).1.ok.p0; omega
        clear hp0
        go_wp2
        go_ret
        exact chk_bad (by omega) HX.out (HB.out.alloc HB.out.size _)
      · have e0 : ((x.parts.length : Int) == 0) = false := by rw [beq_eq_false_iff_ne]; omega
        by_cases hj0 : x.joins.length + 1 = x.parts.length
        · have e1 : ((x.joins.length : Int) != (x.parts.length : Int) - 1) = false := by rw [bne_eq_false_iff_eq]; omega
          have hok : Hid (WdOk x) := ⟨by omega, hj0⟩
          generalize hpl : x.parts.length = m at *
          generalize hjl : x.joins.length = mj at *
          generalize (flatW (ws.take j)).length = T at *
          have HPL := Lib.hid hpl
          have HJL := Lib.hid hjl
          clear hpl hjl hj0
          by_cases ht : T + m ≤ 256
          · go_wp2
            go_loop [9, 45] (fun _ vk => ∃ k : Nat, k ≤ m ∧ vk = .int .i64 k ∧ ∀ i, i < k → 0 ≤ x.parts.getD i 0 ∧ x.parts.getD i 0 ≤ 65535) (fun _ k => m - (intOf k).toNat)
            case atStart => exact ⟨0, by omega, rfl, fun i hi => by omega⟩
            case round =>
              obtain ⟨k, hk, rfl, hpr⟩ := hrel
              have HPR := Lib.hid hpr
              clear hpr
              by_cases hkm : k < m
              · obtain ⟨bP, oP, hA, hcell⟩ := HCP.out _ (HB.out.alloc HB.out.size (Obj.cells #[Value.slice A m cA, Value.slice Bq mj cB] 33)) k hkm
                subst hA
                have HV : Hid (x.parts.getD k 0 = x.parts.getD k 0) := rfl
                generalize hv : x.parts.getD k 0 = v at hcell
                have HVE := Lib.hid hv
                clear hv HV
                by_cases hr : 0 ≤ v ∧ v ≤ 65535
                · obtain ⟨r0, r1⟩ := hr
                  go_wp2
                  go_round
                  case rel => exact ⟨k + 1, by omega, by go_num, fun i hi => by
                    rcases Nat.lt_or_ge i k with h | h
                    · exact HPR.out i h
                    · rw [show i = k by omega, HVE.out]; exact ⟨r0, r1⟩⟩
                  case measure => simp [intOf]; omega
                · have HX : Hid (¬ G) := fun g => hr (by rw [← HVE.out]; exact (HIN.out g).1.pr k (by rw [HPL.out]; exact hkm))
                  by_cases r0 : 0 ≤ v
                  · have r1 : 65535 < v := by omega
                    clear hr
                    go_wp2
                    go_ret
                    exact chk_bad (by omega) HX.out (HB.out.alloc HB.out.size _)
                  · clear hr
                    go_wp2
                    go_ret
                    exact chk_bad (by omega) HX.out (HB.out.alloc HB.out.size _)
              · obtain rfl : k = m := by omega
                go_wp2
                go_loop [11, 59] (fun _ vk => ∃ k : Nat, k ≤ mj ∧ vk = .int .i64 k ∧ ∀ i, i < k → -2047 ≤ x.joins.getD i 0 ∧ x.joins.getD i 0 ≤ 2047) (fun _ k => mj - (intOf k).toNat)
                case atStart => exact ⟨0, by omega, rfl, fun i hi => by omega⟩
                case round =>
                  obtain ⟨q, hq, rfl, hjr⟩ := hrel
                  have HJR := Lib.hid hjr
                  clear hjr
                  by_cases hqm : q < mj
                  · obtain ⟨bP, oP, hA, hcell⟩ := HCJ.out _ (HB.out.alloc HB.out.size (Obj.cells #[Value.slice A k cA, Value.slice Bq mj cB] 33)) q hqm
                    subst hA
                    generalize hv : x.joins.getD q 0 = v at hcell
                    have HVE := Lib.hid hv
                    clear hv
                    by_cases hr : -2047 ≤ v ∧ v ≤ 2047
                    · obtain ⟨r0, r1⟩ := hr
                      go_wp2
                      go_round
                      case rel => exact ⟨q + 1, by omega, by go_num, fun i hi => by
                        rcases Nat.lt_or_ge i q with h | h
                        · exact HJR.out i h
                        · rw [show i = q by omega, HVE.out]; exact ⟨r0, r1⟩⟩
                      case measure => simp [intOf]; omega
                    · have HX : Hid (¬ G) := fun g => hr (by rw [← HVE.out]; exact (HIN.out g).1.jr q (by rw [HJL.out]; exact hqm))
                      by_cases r0 : -2047 ≤ v
                      · have r1 : 2047 < v := by omega
                        clear hr
                        go_wp2
                        go_ret
                        exact chk_bad (by omega) HX.out (HB.out.alloc HB.out.size _)
                      · clear hr
                        go_wp2
                        go_ret
                        exact chk_bad (by omega) HX.out (HB.out.alloc HB.out.size _)
                  · obtain rfl : q = mj := by omega
                    go_wp2
                    go_roundw
                    case rel =>
                      refine ⟨j + 1, by omega, by go_num, by rw [HS.out]; go_num, fun i hi => ?_, fun i hi => ?_, HB.out.alloc HB.out.size _, HBk.out.alloc _⟩
                      · rcases Nat.lt_or_ge i (j + 1) with h | h
                        · exact HTot.out i (by omega)
                        · rw [show i = j + 1 by omega, HS.out]; exact ht
                      · rcases Nat.lt_or_ge i j with h | h
                        · exact HAll.out i h
                        · rw [show i = j by omega, hx]
                          exact ⟨hok.out, fun i hi => HPR.out i (by rw [HPL.out] at hi; exact hi), fun i hi => HJR.out i (by rw [HJL.out] at hi; exact hi)⟩
                    case measure => simp [intOf]; omega
          · have HX : Hid (¬ G) := fun g => by have := (HIN.out g).2; rw [HS.out] at this; omega
            have ht' : 256 < (T : Int) + (m : Int) := by omega
            clear ht
            go_wp2
            go_ret
            exact chk_bad (by omega) HX.out (HB.out.alloc HB.out.size _)
        · have e1 : ((x.joins.length : Int) != (x.parts.length : Int) - 1) = true := by rw [bne_iff_ne]; omega
          have HX : Hid (¬ G) := fun g => hj0 (HIN.out g).1.ok.j0
          clear hj0
          go_wp2
          go_ret
          exact chk_bad (by omega) HX.out (HB.out.alloc HB.out.size _)
    · obtain rfl : j = n := by omega
      have y0 : wr.cell? ⟨w.heap.size, 0, none⟩ = some (.int .i64 sW) := hB.cell 0
      have y1 : wr.cell? ⟨w.heap.size, 1, none⟩ = some (.int .i64 sS) := hB.cell 1
      have y2 : wr.cell? ⟨w.heap.size, 2, none⟩ = some (.int .i64 sLo) := hB.cell 2
      have y3 : wr.cell? ⟨w.heap.size, 3, none⟩ = some (.int .i64 sMo) := hB.cell 3
      have y4 : wr.cell? ⟨w.heap.size, 4, none⟩ = some (.int .i64 sH) := hB.cell 4
      have y5 : wr.cell? ⟨w.heap.size, 5, none⟩ = some (.int .i64 sC) := hB.cell 5
      have HGS : Hid (G → ShapeOk ⟨sW, sS, sLo, sMo, sH, sC⟩) := fun g => by rw [← HG.out] at g; exact g.sh
      have HTot := Lib.hid htot
      have HAll := Lib.hid hall
      have HB := Lib.hid hb
      clear htot hall hb hB
      by_cases a0 : sW < 1
      · have HX : Hid (¬ G) := fun g => by have := (HGS.out g).W0; dsimp only at this; omega
        go_wp2
        go_ret
        exact chk_bad (by omega) HX.out HB.out
      have n0 : 1 ≤ sW := by omega
      clear a0
      by_cases a1 : 65535 < sW
      · have HX : Hid (¬ G) := fun g => by have := (HGS.out g).W1; dsimp only at this; omega
        go_wp2
        go_ret
        exact chk_bad (by omega) HX.out HB.out
      have n1 : sW ≤ 65535 := by omega
      clear a1
      by_cases a2 : sLo < 0
      · have HX : Hid (¬ G) := fun g => by have := (HGS.out g).L0; dsimp only at this; omega
        go_wp2
        go_ret
        exact chk_bad (by omega) HX.out HB.out
      have n2 : 0 ≤ sLo := by omega
      clear a2
      by_cases a3 : 65535 < sMo
      · have HX : Hid (¬ G) := fun g => by have := (HGS.out g).M1; dsimp only at this; omega
        go_wp2
        go_ret
        exact chk_bad (by omega) HX.out HB.out
      have n3 : sMo ≤ 65535 := by omega
      clear a3
      by_cases a4 : sH < 0
      · have HX : Hid (¬ G) := fun g => by have := (HGS.out g).H0; dsimp only at this; omega
        go_wp2
        go_ret
        exact chk_bad (by omega) HX.out HB.out
      have n4 : 0 ≤ sH := by omega
      clear a4
      by_cases a5 : 65535 < sH
      · have HX : Hid (¬ G) := fun g => by have := (HGS.out g).H1; dsimp only at this; omega
        go_wp2
        go_ret
        exact chk_bad (by omega) HX.out HB.out
      have n5 : sH ≤ 65535 := by omega
      clear a5
      by_cases a6 : sC < 0
      · have HX : Hid (¬ G) := fun g => by have := (HGS.out g).C0; dsimp only at this; omega
        go_wp2
        go_ret
        exact chk_bad (by omega) HX.out HB.out
      have n6 : 0 ≤ sC := by omega
      clear a6
      by_cases a7 : 1048576 < sC
      · have HX : Hid (¬ G) := fun g => by have := (HGS.out g).C1; dsimp only at this; omega
        go_wp2
        go_ret
        exact chk_bad (by omega) HX.out HB.out
      have n7 : sC ≤ 1048576 := by omega
      clear a7
      by_cases a8 : sS < sLo
      · have HX : Hid (¬ G) := fun g => by have := (HGS.out g).LS; dsimp only at this; omega
        go_wp2
        go_ret
        exact chk_bad (by omega) HX.out HB.out
      have n8 : sLo ≤ sS := by omega
      clear a8
      by_cases a9 : sMo < sS
      · have HX : Hid (¬ G) := fun g => by have := (HGS.out g).SM; dsimp only at this; omega
        go_wp2
        go_ret
        exact chk_bad (by omega) HX.out HB.out
      have n9 : sS ≤ sMo := by omega
      clear a9
      have HX : Hid G := by
        unfold Hid; rw [← HG.out]
        exact ⟨by rw [HN.out]; exact hn, fun i hi => HAll.out i (by rw [HN.out] at hi; exact hi), fun i hi => HTot.out i (by rw [HN.out] at hi; exact hi), ⟨n0, n1, n2, n8, n9, n3, n4, n5, n6, n7⟩⟩
      go_wp2
      go_ret
      exact chk_ok HX.out HB.out
theorem check_large (A : Option Addr) (n c : Nat) (sv : Shape) (G : Prop) (w : World) (hn : 128 < n) (hm : n ≤ 9223372036854775807) (hG : ¬ G) :
    Calls Try.prog 10 #[.slice A n c, .agg #[.int .i64 sv.W, .int .i64 sv.S, .int .i64 sv.Lo, .int .i64 sv.Mo, .int .i64 sv.H, .int .i64 sv.C]] w (ChkPost G w) := by
  have HX := Lib.hid hG
  clear hG
  go_enter Try.func10, Try.ntmps10
  go_wp2
  go_ret
  exact chk_bad (by omega) HX.out ((Below.refl _ _).alloc (Nat.le_refl _) _)
end Go.Proofs.Ytajmdgkchleipaa
