/- No words: Check and Break there. -/
import Derived.Test.YtajmdgkchleipaaBreak
namespace Go.Proofs.Ytajmdgkchleipaa
open Go.RowKit Para
theorem good_nil {s : Shape} (h : ShapeOk s) : Good [] s := ⟨by simp, fun i hi => by simp at hi, fun i hi => by simp [flatW], h⟩
set_option maxHeartbeats 4000000 in
set_option maxRecDepth 100000 in
theorem check_zero (A : Option Addr) (c : Nat) (s : Shape) (w : World) :
    Calls Try.prog 10 #[.slice A 0 c, .agg #[.int .i64 s.W, .int .i64 s.S, .int .i64 s.Lo, .int .i64 s.Mo, .int .i64 s.H, .int .i64 s.C]] w (ChkPost (Good [] s) w) := by
  obtain ⟨sW, sS, sLo, sMo, sH, sC⟩ := s
  dsimp only
  generalize hG : Good [] ⟨sW, sS, sLo, sMo, sH, sC⟩ = G
  have HG := Lib.hid hG
  clear hG
  have HGS : Hid (G → ShapeOk ⟨sW, sS, sLo, sMo, sH, sC⟩) := fun g => by rw [← HG.out] at g; exact g.sh
  go_enter Try.func10, Try.ntmps10
  go_wp2
  go_loopw [5, 17] (fun vt vi wr => vi = .int .i64 0 ∧ Below w.heap.size w wr ∧ Blk wr w.heap.size 24 #[.int .i64 sW, .int .i64 sS, .int .i64 sLo, .int .i64 sMo, .int .i64 sH, .int .i64 sC]) (fun _ i _ => (intOf i).toNat)
  case atStart => exact ⟨rfl, (Below.refl _ _).alloc (Nat.le_refl _) _, Blk.new _ _ _⟩
  case round =>
    obtain ⟨rfl, hb, hB⟩ := hrel
    have y0 : wr.cell? ⟨w.heap.size, 0, none⟩ = some (.int .i64 sW) := hB.cell 0
    have y1 : wr.cell? ⟨w.heap.size, 1, none⟩ = some (.int .i64 sS) := hB.cell 1
    have y2 : wr.cell? ⟨w.heap.size, 2, none⟩ = some (.int .i64 sLo) := hB.cell 2
    have y3 : wr.cell? ⟨w.heap.size, 3, none⟩ = some (.int .i64 sMo) := hB.cell 3
    have y4 : wr.cell? ⟨w.heap.size, 4, none⟩ = some (.int .i64 sH) := hB.cell 4
    have y5 : wr.cell? ⟨w.heap.size, 5, none⟩ = some (.int .i64 sC) := hB.cell 5
    have HB := Lib.hid hb
    clear hb hB
    by_cases a0 : sW < 1
    · have HX : Hid (¬ G) := fun g => by have := (HGS.out g).W0; dsimp only at this; omega
      go_wp2
      go_ret
      exact chk_bad (by omega) HX.out HB.out
    have n0 : 1 ≤ sW := by omega
    clear a0
    by_cases a1 : 65535 < sW
    · have HX : Hid (¬ G) := fun g => by have := (HGS.out g).W1; dsimp only at this; omega
      go_wp2
      go_ret
      exact chk_bad (by omega) HX.out HB.out
    have n1 : sW ≤ 65535 := by omega
    clear a1
    by_cases a2 : sLo < 0
    · have HX : Hid (¬ G) := fun g => by have := (HGS.out g).L0; dsimp only at this; omega
      go_wp2
      go_ret
      exact chk_bad (by omega) HX.out HB.out
    have n2 : 0 ≤ sLo := by omega
    clear a2
    by_cases a3 : 65535 < sMo
    · have HX : Hid (¬ G) := fun g => by have := (HGS.out g).M1; dsimp only at this; omega
      go_wp2
      go_ret
      exact chk_bad (by omega) HX.out HB.out
    have n3 : sMo ≤ 65535 := by omega
    clear a3
    by_cases a4 : sH < 0
    · have HX : Hid (¬ G) := fun g => by have := (HGS.out g).H0; dsimp only at this; omega
      go_wp2
      go_ret
      exact chk_bad (by omega) HX.out HB.out
    have n4 : 0 ≤ sH := by omega
    clear a4
    by_cases a5 : 65535 < sH
    · have HX : Hid (¬ G) := fun g => by have := (HGS.out g).H1; dsimp only at this; omega
      go_wp2
      go_ret
      exact chk_bad (by omega) HX.out HB.out
    have n5 : sH ≤ 65535 := by omega
    clear a5
    by_cases a6 : sC < 0
    · have HX : Hid (¬ G) := fun g => by have := (HGS.out g).C0; dsimp only at this; omega
      go_wp2
      go_ret
      exact chk_bad (by omega) HX.out HB.out
    have n6 : 0 ≤ sC := by omega
    clear a6
    by_cases a7 : 1048576 < sC
    · have HX : Hid (¬ G) := fun g => by have := (HGS.out g).C1; dsimp only at this; omega
      go_wp2
      go_ret
      exact chk_bad (by omega) HX.out HB.out
    have n7 : sC ≤ 1048576 := by omega
    clear a7
    by_cases a8 : sS < sLo
    · have HX : Hid (¬ G) := fun g => by have := (HGS.out g).LS; dsimp only at this; omega
      go_wp2
      go_ret
      exact chk_bad (by omega) HX.out HB.out
    have n8 : sLo ≤ sS := by omega
    clear a8
    by_cases a9 : sMo < sS
    · have HX : Hid (¬ G) := fun g => by have := (HGS.out g).SM; dsimp only at this; omega
      go_wp2
      go_ret
      exact chk_bad (by omega) HX.out HB.out
    have n9 : sS ≤ sMo := by omega
    clear a9
    have HX : Hid G := by
      unfold Hid; rw [← HG.out]
      exact good_nil ⟨n0, n1, n2, n8, n9, n3, n4, n5, n6, n7⟩
    go_wp2
    go_ret
    exact chk_ok HX.out HB.out
theorem flat_zero (A : Option Addr) (c : Nat) (w : World) : Calls Try.prog 11 #[.slice A 0 c] w fun e w' => e = .returned (.slice none 0 0) ∧ w' = w := by
  go_enter Try.func11, Try.ntmps11
  go_wp2
  go_loopw [3, 11] (fun vo vi wr => vi = .int .i64 0 ∧ vo = .slice none 0 0 ∧ wr = w) (fun _ i _ => (intOf i).toNat)
  case atStart => exact ⟨rfl, rfl, rfl⟩
  case round =>
    obtain ⟨rfl, rfl, rfl⟩ := hrel
    go_wp2
    go_ret
    exact ⟨rfl, rfl⟩
set_option maxHeartbeats 4000000 in
set_option maxRecDepth 100000 in
theorem break_zero (A : Option Addr) (c : Nat) (s : Shape) (w : World) :
    Calls Try.prog 7 #[.slice A 0 c, .agg #[.int .i64 s.W, .int .i64 s.S, .int .i64 s.Lo, .int .i64 s.Mo, .int .i64 s.H, .int .i64 s.C]] w (BrkPost [] s w) := by
  have HChk := Lib.hid (check_zero A c s (w.alloc (Obj.cells #[.int .i64 s.W, .int .i64 s.S, .int .i64 s.Lo, .int .i64 s.Mo, .int .i64 s.H, .int .i64 s.C] 24)))
  go_enter Try.func7, Try.ntmps7
  go_wp2_with fail
  refine HChk.out.mono ?_; rintro e w1 ⟨z, rfl, hz, hb1⟩
  have hbw := (((Below.refl w.heap.size w).alloc (Nat.le_refl _) (Obj.cells #[.int .i64 s.W, .int .i64 s.S, .int .i64 s.Lo, .int .i64 s.Mo, .int .i64 s.H, .int .i64 s.C] 24))).trans (hb1.mono (by simp))
  have HBW := Lib.hid hbw
  by_cases hg : Good [] s
  · have hz0 : z = 0 := hz.2 hg
    subst hz0
    have HF := Lib.hid (flat_zero A c w1)
    have HG := Lib.hid hg
    clear hz HChk hb1 hbw hg
    go_wp2_with fail
    refine HF.out.mono ?_; rintro e w2 ⟨rfl, rfl⟩
    have m1 := run_make1 (P := Try.prog) eInt rfl 1 1 rfl (by omega) (by omega)
    have m2 := run_make1 (P := Try.prog) eInt rfl 0 0 rfl (by omega) (by omega)
    go_upto_region 6 with (fail)
    go_cut [10, 11] (fun v10 v11 wx => ∃ g1 g2, v10 = .slice (some ⟨g1, 0, none⟩) 1 1 ∧ v11 = .slice (some ⟨g2, 0, none⟩) 0 0 ∧ IRow wx g1 [0] ∧ Below w2.heap.size w2 wx)
    case first =>
      go_region
      all_goals (go_wp2; go_meet)
      · obtain ⟨r1, r2, r3⟩ := two_rows w2 1 0
        exact ⟨_, _, rfl, rfl, r1, r3⟩
      · obtain ⟨r1, r2, r3⟩ := two_rows w2 0 1
        exact ⟨_, _, rfl, rfl, r2, r3⟩
    case rest =>
      clear m1 m2
      obtain ⟨g1, g2, rfl, rfl, r1, hb⟩ := hcut
      have c1 : wc.cell? ⟨g1, 0, none⟩ = some (.int .i64 0) := r1.at_ (i := 0) (by simp)
      have e1 := r1.lt
      have HB := Lib.hid hb
      clear hb r1
      go_wp2
      go_loopw [12, 13, 14, 15] (fun vi _ _ _ wr => vi = .int .i64 (-1) ∧ wr = wc) (fun vi _ _ _ _ => (intOf vi + 1).toNat)
      case atStart => exact ⟨rfl, rfl⟩
      case round =>
        obtain ⟨rfl, rfl⟩ := hrel
        go_wp2
        go_loopw [16, 17] (fun vo vi wi => vo = .slice none 0 0 ∧ vi = .int .i64 0 ∧ wi = wr) (fun _ i _ => (intOf i).toNat)
        case atStart => exact ⟨rfl, rfl, rfl⟩
        case round =>
          obtain ⟨rfl, rfl, rfl⟩ := hrel
          go_wp2
          go_quiet (fail)
          go_wp2
          go_ret3
          exact ⟨below_drewN (HBW.out.trans (HB.out.mono HBW.out.size)) _, .inr ⟨HG.out, (0, 0), none, 0, rfl, rfl, LinesIn.nil _ _⟩⟩
  · have hz0 : z ≠ 0 := fun e => hg (hz.1 e)
    have HG := Lib.hid hg
    clear hz hg HChk hbw hb1
    go_wp2
    go_ret3
    exact ⟨HBW.out, .inl ⟨z, hz0, rfl, fun g => absurd g HG.out⟩⟩
end Go.Proofs.Ytajmdgkchleipaa
