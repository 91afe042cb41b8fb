/- The walk of impose.Check. -/
import Derived.Deep.DeepCutAuto
import Derived.Test.YtjcijogdcafloaaImpA
namespace Go.Proofs.Ytjcijogdcafloaa
open Go.RowKit
/-- A layout as it comes in. -/
structure LayI where
  C : Int
  R : Int
  W : Int
  H : Int
  head : Int
  fore : Int
  spine : Int
  margin : Int
  creep : Int
  style : Int
def LayI.val (I : LayI) (v : Value) : Value := .agg #[.int .i64 I.C, .int .i64 I.R, v, .int .i64 I.W, .int .i64 I.H, .int .i64 I.head, .int .i64 I.fore, .int .i64 I.spine, .int .i64 I.margin, .int .i64 I.creep, .int .i64 I.style]
/-- The layout as the laws take it. -/
def LayI.lay (I : LayI) (l : List Step) : Lay := ⟨I.C.toNat, I.R.toNat, I.W, I.H, I.head, I.fore, I.spine, I.margin, I.creep, I.style, turnOf (lastSide l) % 2 == 1⟩
def off64 (n : Int) : Prop := n < 0 ∨ 64 < n
instance (n : Int) : Decidable (off64 n) := by unfold off64; exact inferInstance
/-- What Check answers. -/
def impZ (I : LayI) (l : List Step) : Int :=
  if chk I.C I.R l ≠ 0 then chk I.C I.R l else if foldedZ I.C I.R l ≠ 0 then foldedZ I.C I.R l
  else if I.W < 1 ∨ 256 < I.W ∨ I.H < 1 ∨ 256 < I.H then 3
  else if off64 I.head ∨ off64 I.fore ∨ off64 I.spine ∨ off64 I.margin then 3
  else if I.creep < 0 ∨ 8 < I.creep then 3 else if I.style < 0 ∨ 2 < I.style then 14
  else if I.spine < (I.C * I.R - 1) / 2 * I.creep then 19
  else if 1024 < (I.lay l).pw ∨ 1024 < (I.lay l).ph then 2 else 0
theorem impZ_zero {I : LayI} {l : List Step} (v : Value) (h : impZ I l = 0) : ∃ c r : Nat, I.C = c ∧ I.R = r ∧ LB (I.lay l) v l ∧ (I.lay l).Ok ∧ (I.lay l).pw ≤ 1024 ∧ (I.lay l).ph ≤ 1024 := by
  unfold impZ at h
  by_cases h1 : chk I.C I.R l = 0
  · rw [if_neg (by simpa using h1)] at h
    by_cases h2 : foldedZ I.C I.R l = 0
    · rw [if_neg (by simpa using h2)] at h
      by_cases h3 : I.W < 1 ∨ 256 < I.W ∨ I.H < 1 ∨ 256 < I.H
      · rw [if_pos h3] at h; cases h
      · rw [if_neg h3] at h
        by_cases h4 : off64 I.head ∨ off64 I.fore ∨ off64 I.spine ∨ off64 I.margin
        · rw [if_pos h4] at h; cases h
        · rw [if_neg h4] at h
          by_cases h5 : I.creep < 0 ∨ 8 < I.creep
          · rw [if_pos h5] at h; cases h
          · rw [if_neg h5] at h
            by_cases h6 : I.style < 0 ∨ 2 < I.style
            · rw [if_pos h6] at h; cases h
            · rw [if_neg h6] at h
              by_cases h7 : I.spine < (I.C * I.R - 1) / 2 * I.creep
              · rw [if_pos h7] at h; cases h
              · rw [if_neg h7] at h
                by_cases h8 : 1024 < (I.lay l).pw ∨ 1024 < (I.lay l).ph
                · rw [if_pos h8] at h; cases h
                · obtain ⟨c, r, ec, er, hg, hw⟩ := foldedZ_zero h2
                  unfold off64 at h4
                  have e1 : (I.lay l).C = c := by unfold LayI.lay; dsimp only; omega
                  have e2 : (I.lay l).R = r := by unfold LayI.lay; dsimp only; omega
                  have hcr : c * r ≤ 32 := by rw [Nat.mul_comm]; exact hg.cr
                  have hpos : 0 < c * r := Nat.mul_pos hg.c1 hg.r1
                  refine ⟨c, r, ec, er, ⟨by rw [e1, e2]; exact hg, by rw [e1, e2]; exact hw, rfl, ?_, ?_, ?_, ?_, ?_, ?_, ?_, ?_, ?_, ?_, ?_, ?_, ?_, ?_⟩, ⟨by rw [e1]; exact hg.c1, by rw [e2]; exact hg.r1, by rw [e1, e2]; exact hcr, ?_, ?_, ?_, ?_, ?_, ?_, ?_, ?_, ?_, ?_, ?_⟩, by omega, by omega⟩
                  all_goals first
                    | (show (_ : Int) ≤ _; simp only [LayI.lay]; omega)
                    | skip
                  rw [ec, er, ← Int.natCast_mul] at h7
                  rw [e1, e2]
                  simp only [LayI.lay]
                  have e3 : (((c * r - 1) / 2 : Nat) : Int) = (((c * r : Nat) : Int) - 1) / 2 := by omega
                  rw [e3]; omega
    · rw [if_pos h2] at h; exact absurd h h2
  · rw [if_pos h1] at h; exact absurd h h1
theorem idx4_0 (a b c d : Int) (W : World) : (Instr.index 109 (.agg #[.int .i64 a, .int .i64 b, .int .i64 c, .int .i64 d]) (.int .i64 0)).run Try.prog W = .ok (.int .i64 a) W := by
  unfold Instr.index
  simp [go_sem]
theorem idx4_1 (a b c d : Int) (W : World) : (Instr.index 109 (.agg #[.int .i64 a, .int .i64 b, .int .i64 c, .int .i64 d]) (.int .i64 1)).run Try.prog W = .ok (.int .i64 b) W := by
  unfold Instr.index
  simp [go_sem]
theorem idx4_2 (a b c d : Int) (W : World) : (Instr.index 109 (.agg #[.int .i64 a, .int .i64 b, .int .i64 c, .int .i64 d]) (.int .i64 2)).run Try.prog W = .ok (.int .i64 c) W := by
  unfold Instr.index
  simp [go_sem]
theorem idx4_3 (a b c d : Int) (W : World) : (Instr.index 109 (.agg #[.int .i64 a, .int .i64 b, .int .i64 c, .int .i64 d]) (.int .i64 3)).run Try.prog W = .ok (.int .i64 d) W := by
  unfold Instr.index
  simp [go_sem]
set_option maxRecDepth 100000 in
set_option maxHeartbeats 8000000 in
theorem impcheck_any (I : LayI) (v : Value) (l : List Step) (w : World) (hI : Sv w v l) :
    Calls Try.prog 29 #[I.val v] w fun e w' => e = .returned (.int .i64 (impZ I l)) ∧ Below w.heap.size w w' := by
  have HI := Lib.hid hI
  obtain ⟨Av, cv, ev⟩ := SlM.form hI
  have HChk : Hid (∀ w', Below w.heap.size w w' → Calls Try.prog 50 #[.agg #[.int .i64 I.C, .int .i64 I.R, v]] w' fun e w'' => e = .returned (.int .i64 (chk I.C I.R l)) ∧ Below w'.heap.size w' w'') := fun w' hb => check_any I.C I.R v l w' (SlM.later HI.out hb)
  have hb0 := Lib.hid ((Below.refl w.heap.size w).alloc (Nat.le_refl _) (Obj.cells #[.int .i64 I.C, .int .i64 I.R, v, .int .i64 I.W, .int .i64 I.H, .int .i64 I.head, .int .i64 I.fore, .int .i64 I.spine, .int .i64 I.margin, .int .i64 I.creep, .int .i64 I.style] 26))
  have hbl0 := Lib.hid (Blk.new w 26 #[.int .i64 I.C, .int .i64 I.R, v, .int .i64 I.W, .int .i64 I.H, .int .i64 I.head, .int .i64 I.fore, .int .i64 I.spine, .int .i64 I.margin, .int .i64 I.creep, .int .i64 I.style])
  by_cases h1 : chk I.C I.R l = 0
  · rw [h1] at HChk
    by_cases h2 : foldedZ I.C I.R l = 0
    · obtain ⟨c, r, ec, er, hg, hw⟩ := foldedZ_zero h2
      have hPg : Hid (∀ w', Below w.heap.size w w' → Calls Try.prog 33 #[.agg #[.int .i64 I.C, .int .i64 I.R, v]] w' fun e w'' => ∃ A n cc, e = .returned (.tuple #[.slice A n cc, .int .i64 0]) ∧ Below w'.heap.size w' w'') := fun w' hb => by
        rw [ec, er]
        refine (pages_ok c r v l w' (SlM.later HI.out hb) hg hw).mono ?_
        rintro e w'' ⟨v', rfl, ho, hb⟩
        obtain ⟨A, cc, rfl⟩ := own_form ho
        exact ⟨A, _, cc, rfl, hb⟩
      have HZ : Hid (impZ I l = if I.W < 1 ∨ 256 < I.W ∨ I.H < 1 ∨ 256 < I.H then 3
          else if off64 I.head ∨ off64 I.fore ∨ off64 I.spine ∨ off64 I.margin then 3
          else if I.creep < 0 ∨ 8 < I.creep then 3 else if I.style < 0 ∨ 2 < I.style then 14
          else if I.spine < (I.C * I.R - 1) / 2 * I.creep then 19
          else if 1024 < (I.lay l).pw ∨ 1024 < (I.lay l).ph then 2 else 0) := by
        unfold Hid impZ; rw [if_neg (by simpa using h1), if_neg (by simpa using h2)]
      have HSz : Hid (¬ (I.W < 1 ∨ 256 < I.W ∨ I.H < 1 ∨ 256 < I.H) → ¬ (off64 I.head ∨ off64 I.fore ∨ off64 I.spine ∨ off64 I.margin) → ¬ (I.creep < 0 ∨ 8 < I.creep) → ¬ (I.style < 0 ∨ 2 < I.style) → ∀ w', Below w.heap.size w w' → Calls Try.prog 34 #[I.val v] w' fun e w'' => e = .returned (.tuple #[.int .i64 (I.lay l).pw, .int .i64 (I.lay l).ph]) ∧ Below w'.heap.size w' w'') := fun a1 a2 a3 a4 w' hb => by
        unfold off64 at a2
        have e1 : (I.lay l).C = c := by unfold LayI.lay; dsimp only; omega
        have e2 : (I.lay l).R = r := by unfold LayI.lay; dsimp only; omega
        have hLB : LB (I.lay l) v l := ⟨by rw [e1, e2]; exact hg, by rw [e1, e2]; exact hw, rfl, by simp only [LayI.lay]; omega, by simp only [LayI.lay]; omega, by simp only [LayI.lay]; omega, by simp only [LayI.lay]; omega, by simp only [LayI.lay]; omega, by simp only [LayI.lay]; omega, by simp only [LayI.lay]; omega, by simp only [LayI.lay]; omega, by simp only [LayI.lay]; omega, by simp only [LayI.lay]; omega, by simp only [LayI.lay]; omega, by simp only [LayI.lay]; omega, by simp only [LayI.lay]; omega, by simp only [LayI.lay]; omega⟩
        have hv : I.val v = layV (I.lay l) v := by
          unfold layV LayI.val; rw [e1, e2, ← ec, ← er]; rfl
        rw [hv]
        exact size_imp hLB (by simp only [LayI.lay]; omega) (by simp only [LayI.lay]; omega) w' (SlM.later HI.out hb)
      have hcr : c * r ≤ 32 := by rw [Nat.mul_comm]; exact hg.cr
      have hc8 := hg.c8
      have hr8 := hg.r8
      have hc1 := hg.c1
      have hr1 := hg.r1
      have hpos : 0 < c * r := Nat.mul_pos hg.c1 hg.r1
      generalize impZ I l = z at *
      generalize (I.lay l).pw = pw at *
      generalize (I.lay l).ph = ph at *
      clear h1 h2 hg hw hI
      unfold LayI.val at *
      obtain ⟨C, R, W, H, hd, fo, sp, mg, cr, sty⟩ := I
      dsimp only at *
      subst ec er ev
      generalize l.length = n at *
      go_enter Try.func29, Try.ntmps29
      go_wp2_with fail
      refine (HChk.out _ hb0.out).mono ?_; rintro e w1 ⟨rfl, hb1⟩
      have x := hbl0.out.below hb1 hbl0.out.lt
      have HB1 := Lib.hid (hb0.out.trans (hb1.mono hb0.out.size))
      have c0 := x.cell 0
      have c1 := x.cell 1
      have c2 := x.cell 2
      simp only [List.getElem?_toArray, List.getElem?_cons_zero, List.getElem?_cons_succ] at c0 c1 c2
      have HX := Lib.hid x
      clear hb1 x
      go_wp2_with fail
      refine (hPg.out _ HB1.out).mono ?_; rintro e w2 ⟨Ap, np, cp, rfl, hb2⟩
      have x := HX.out.below hb2 HX.out.lt
      have HB2 := Lib.hid (HB1.out.trans (hb2.mono HB1.out.size))
      clear c0 c1 c2
      have c0 := x.cell 0
      have c1 := x.cell 1
      have c2 := x.cell 2
      have c3 := x.cell 3
      have c4 := x.cell 4
      have c5 := x.cell 5
      have c6 := x.cell 6
      have c7 := x.cell 7
      have c8 := x.cell 8
      have c9 := x.cell 9
      have c10 := x.cell 10
      simp only [List.getElem?_toArray, List.getElem?_cons_zero, List.getElem?_cons_succ] at c0 c1 c2 c3 c4 c5 c6 c7 c8 c9 c10
      have hlt := x.lt
      have HX2 := Lib.hid x
      clear hb2 x
      by_cases h3 : W < 1 ∨ 256 < W ∨ H < 1 ∨ 256 < H
      · have HZ3 : Hid (z = 3) := by unfold Hid; rw [HZ.out, if_pos h3]
        clear HZ
        rcases h3 with h3 | h3 | h3 | h3
        all_goals
          go_wp2
          all_goals
            go_ret
            refine ⟨?_, HB2.out⟩
            rw [HZ3.out]
            rfl
      · have H3 := Lib.hid h3
        have w1' : 1 ≤ W := by omega
        have w2' : W ≤ 256 := by omega
        have w3' : 1 ≤ H := by omega
        have w4' : H ≤ 256 := by omega
        have HZ4 : Hid (z = if off64 hd ∨ off64 fo ∨ off64 sp ∨ off64 mg then 3
          else if cr < 0 ∨ 8 < cr then 3 else if sty < 0 ∨ 2 < sty then 14
          else if sp < ((c : Int) * (r : Int) - 1) / 2 * cr then 19
          else if 1024 < pw ∨ 1024 < ph then 2 else 0) := by unfold Hid; rw [HZ.out, if_neg h3]
        clear HZ h3
        go_wp2
        go_loop [52] (fun vi => ∃ i : Nat, i ≤ 4 ∧ vi = .int .i64 i ∧ Hid ((0 < i → ¬ off64 hd) ∧ (1 < i → ¬ off64 fo) ∧ (2 < i → ¬ off64 sp) ∧ (3 < i → ¬ off64 mg))) (fun v => 4 - (intOf v).toNat)
        case atStart => exact ⟨0, by omega, rfl, ⟨fun h => absurd h (by omega), fun h => absurd h (by omega), fun h => absurd h (by omega), fun h => absurd h (by omega)⟩⟩
        case round =>
          obtain ⟨i, hi, rfl, hno⟩ := hrel
          have hi5 : i = 0 ∨ i = 1 ∨ i = 2 ∨ i = 3 ∨ i = 4 := by omega
          clear hi
          rcases hi5 with rfl | rfl | rfl | rfl | rfl
          · rw [show ((0 : Nat) : Int) = 0 from rfl]
            have hix := idx4_0 hd fo sp mg
            by_cases ho : off64 hd
            · have HZ3 : Hid (z = 3) := by unfold Hid; rw [HZ4.out, if_pos (.inl ho)]
              clear HZ4
              rcases ho with ho | ho
              all_goals
                go_wp2
                all_goals
                  go_ret
                  refine ⟨?_, HB2.out⟩
                  rw [HZ3.out]
                  rfl
            · have HO := Lib.hid ho
              unfold off64 at ho
              have o1 : 0 ≤ hd := by omega
              have o2 : hd ≤ 64 := by omega
              clear ho
              go_wp2
              go_round
              case rel => exact ⟨1, by omega, by go_num, ⟨fun _ => HO.out, fun h => absurd h (by omega), fun h => absurd h (by omega), fun h => absurd h (by omega)⟩⟩
              case measure => simp [intOf]
          · rw [show ((1 : Nat) : Int) = 1 from rfl]
            have hix := idx4_1 hd fo sp mg
            by_cases ho : off64 fo
            · have HZ3 : Hid (z = 3) := by unfold Hid; rw [HZ4.out, if_pos (.inr (.inl ho))]
              clear HZ4
              rcases ho with ho | ho
              all_goals
                go_wp2
                all_goals
                  go_ret
                  refine ⟨?_, HB2.out⟩
                  rw [HZ3.out]
                  rfl
            · have HO := Lib.hid ho
              unfold off64 at ho
              have o1 : 0 ≤ fo := by omega
              have o2 : fo ≤ 64 := by omega
              clear ho
              go_wp2
              go_round
              case rel => exact ⟨2, by omega, by go_num, ⟨fun _ => hno.out.1 (by omega), fun _ => HO.out, fun h => absurd h (by omega), fun h => absurd h (by omega)⟩⟩
              case measure => simp [intOf]
          · rw [show ((2 : Nat) : Int) = 2 from rfl]
            have hix := idx4_2 hd fo sp mg
            by_cases ho : off64 sp
            · have HZ3 : Hid (z = 3) := by unfold Hid; rw [HZ4.out, if_pos (.inr (.inr (.inl ho)))]
              clear HZ4
              rcases ho with ho | ho
              all_goals
                go_wp2
                all_goals
                  go_ret
                  refine ⟨?_, HB2.out⟩
                  rw [HZ3.out]
                  rfl
            · have HO := Lib.hid ho
              unfold off64 at ho
              have o1 : 0 ≤ sp := by omega
              have o2 : sp ≤ 64 := by omega
              clear ho
              go_wp2
              go_round
              case rel => exact ⟨3, by omega, by go_num, ⟨fun _ => hno.out.1 (by omega), fun _ => hno.out.2.1 (by omega), fun _ => HO.out, fun h => absurd h (by omega)⟩⟩
              case measure => simp [intOf]
          · rw [show ((3 : Nat) : Int) = 3 from rfl]
            have hix := idx4_3 hd fo sp mg
            by_cases ho : off64 mg
            · have HZ3 : Hid (z = 3) := by unfold Hid; rw [HZ4.out, if_pos (.inr (.inr (.inr ho)))]
              clear HZ4
              rcases ho with ho | ho
              all_goals
                go_wp2
                all_goals
                  go_ret
                  refine ⟨?_, HB2.out⟩
                  rw [HZ3.out]
                  rfl
            · have HO := Lib.hid ho
              unfold off64 at ho
              have o1 : 0 ≤ mg := by omega
              have o2 : mg ≤ 64 := by omega
              clear ho
              go_wp2
              go_round
              case rel => exact ⟨4, by omega, by go_num, ⟨fun _ => hno.out.1 (by omega), fun _ => hno.out.2.1 (by omega), fun _ => hno.out.2.2.1 (by omega), fun _ => HO.out⟩⟩
              case measure => simp [intOf]
          · rw [show ((4 : Nat) : Int) = 4 from rfl]
            have n1 := hno.out.1 (by omega)
            have n2 := hno.out.2.1 (by omega)
            have n3 := hno.out.2.2.1 (by omega)
            have n4 := hno.out.2.2.2 (by omega)
            have hall : ¬ (off64 hd ∨ off64 fo ∨ off64 sp ∨ off64 mg) := by rintro (h | h | h | h) <;> contradiction
            have H4 := Lib.hid hall
            have HZ5 : Hid (z = if cr < 0 ∨ 8 < cr then 3 else if sty < 0 ∨ 2 < sty then 14
              else if sp < ((c : Int) * (r : Int) - 1) / 2 * cr then 19
              else if 1024 < pw ∨ 1024 < ph then 2 else 0) := by unfold Hid; rw [HZ4.out, if_neg hall]
            have o1 : 0 ≤ sp := by unfold off64 at n3; omega
            have o2 : sp ≤ 64 := by unfold off64 at n3; omega
            clear n1 n2 n3 n4 hall HZ4 hno
            by_cases h5 : cr < 0 ∨ 8 < cr
            · have HZ3 : Hid (z = 3) := by unfold Hid; rw [HZ5.out, if_pos h5]
              clear HZ5
              rcases h5 with h5 | h5
              all_goals
                go_wp2
                all_goals
                  go_ret
                  refine ⟨?_, HB2.out⟩
                  rw [HZ3.out]
                  rfl
            · have H5 := Lib.hid h5
              have HZ6 : Hid (z = if sty < 0 ∨ 2 < sty then 14
                else if sp < ((c : Int) * (r : Int) - 1) / 2 * cr then 19
                else if 1024 < pw ∨ 1024 < ph then 2 else 0) := by unfold Hid; rw [HZ5.out, if_neg h5]
              have p1 : 0 ≤ cr := by omega
              have p2 : cr ≤ 8 := by omega
              clear HZ5 h5
              by_cases h6 : sty < 0 ∨ 2 < sty
              · have HZ3 : Hid (z = 14) := by unfold Hid; rw [HZ6.out, if_pos h6]
                clear HZ6
                rcases h6 with h6 | h6
                all_goals
                  go_wp2
                  all_goals
                    go_ret
                    refine ⟨?_, HB2.out⟩
                    rw [HZ3.out]
                    rfl
              · have H6 := Lib.hid h6
                have HZ7 : Hid (z = if sp < ((c : Int) * (r : Int) - 1) / 2 * cr then 19
                  else if 1024 < pw ∨ 1024 < ph then 2 else 0) := by unfold Hid; rw [HZ6.out, if_neg h6]
                have p3 : 0 ≤ sty := by omega
                have p4 : sty ≤ 2 := by omega
                clear HZ6 h6
                have hmul : (c : Int) * (r : Int) = ((c * r : Nat) : Int) := by simp
                rw [hmul] at HZ7
                have HMul := Lib.hid hmul
                generalize hm : c * r = m at *
                have HM := Lib.hid hm
                have q1 : ((m : Int) - 1).tdiv 2 = ((m : Int) - 1) / 2 := Int.tdiv_eq_ediv_of_nonneg (by omega)
                have q2 : 0 ≤ ((m : Int) - 1) / 2 ∧ ((m : Int) - 1) / 2 ≤ 16 := by omega
                clear hm
                have q3 : 0 ≤ ((m : Int) - 1) / 2 * cr ∧ ((m : Int) - 1) / 2 * cr ≤ 16 * 8 := ⟨Int.mul_nonneg q2.1 p1, Int.mul_le_mul q2.2 p2 p1 (by omega)⟩
                obtain ⟨q4, q5⟩ := q3
                generalize hqc : ((m : Int) - 1) / 2 * cr = qc at *
                by_cases h7 : sp < qc
                · have HZ3 : Hid (z = 19) := by unfold Hid; rw [HZ7.out, if_pos h7]
                  clear HZ7
                  go_wp2
                  go_ret
                  refine ⟨?_, HB2.out⟩
                  rw [HZ3.out]
                  rfl
                · have HZ8 : Hid (z = if 1024 < pw ∨ 1024 < ph then 2 else 0) := by unfold Hid; rw [HZ7.out, if_neg h7]
                  have hsz := Lib.hid (HSz.out H3.out H4.out H5.out H6.out)
                  clear HZ7
                  go_wp2_with fail
                  refine (hsz.out _ HB2.out).mono ?_; rintro e w3 ⟨rfl, hb3⟩
                  have HB3 := Lib.hid (HB2.out.trans (hb3.mono HB2.out.size))
                  clear hb3 c0 c1 c2 c3 c4 c5 c6 c7 c8 c9 c10
                  by_cases h8 : 1024 < pw ∨ 1024 < ph
                  · have HZ3 : Hid (z = 2) := by unfold Hid; rw [HZ8.out, if_pos h8]
                    clear HZ8
                    rcases h8 with h8 | h8
                    all_goals
                      go_wp2
                      all_goals
                        go_ret
                        refine ⟨?_, HB3.out⟩
                        rw [HZ3.out]
                        rfl
                  · have HZ3 : Hid (z = 0) := by unfold Hid; rw [HZ8.out, if_neg h8]
                    have b1 : pw ≤ 1024 := by omega
                    have b2 : ph ≤ 1024 := by omega
                    clear HZ8 h8
                    go_wp2
                    go_ret
                    refine ⟨?_, HB3.out⟩
                    rw [HZ3.out]
                    rfl
    · have hPg : Hid (∀ w', Below w.heap.size w w' → Calls Try.prog 33 #[.agg #[.int .i64 I.C, .int .i64 I.R, v]] w' (PagesErr (foldedZ I.C I.R l) w')) := fun w' hb => pages_bad I.C I.R v l w' (SlM.later HI.out hb) h2
      have HZ : Hid (impZ I l = foldedZ I.C I.R l) := by unfold Hid impZ; rw [if_neg (by simpa using h1), if_pos h2]
      have hz1 : (foldedZ I.C I.R l != 0) = true := by simpa using h2
      generalize impZ I l = z at *
      generalize foldedZ I.C I.R l = zf at *
      clear h1 h2 hI
      unfold LayI.val at *
      obtain ⟨C, R, W, H, hd, fo, sp, mg, cr, sty⟩ := I
      dsimp only at *
      subst ev
      generalize l.length = n at *
      go_enter Try.func29, Try.ntmps29
      go_wp2_with fail
      refine (HChk.out _ hb0.out).mono ?_; rintro e w1 ⟨rfl, hb1⟩
      have x := hbl0.out.below hb1 hbl0.out.lt
      have HB1 := Lib.hid (hb0.out.trans (hb1.mono hb0.out.size))
      have c0 := x.cell 0
      have c1 := x.cell 1
      have c2 := x.cell 2
      simp only [List.getElem?_toArray, List.getElem?_cons_zero, List.getElem?_cons_succ] at c0 c1 c2
      clear hb1 x
      go_wp2_with fail
      refine (hPg.out _ HB1.out).mono ?_; rintro e w2 ⟨rfl, hb2⟩
      have HB2 := Lib.hid (HB1.out.trans (hb2.mono HB1.out.size))
      clear hb2
      go_wp2
      go_ret
      refine ⟨?_, HB2.out⟩
      rw [HZ.out]
      rfl
  · have HZ : Hid (impZ I l = chk I.C I.R l) := by unfold Hid impZ; rw [if_pos h1]
    have hz1 : (chk I.C I.R l != 0) = true := by simpa using h1
    generalize impZ I l = z at *
    generalize chk I.C I.R l = zf at *
    clear h1 hI
    unfold LayI.val at *
    obtain ⟨C, R, W, H, hd, fo, sp, mg, cr, sty⟩ := I
    dsimp only at *
    subst ev
    generalize l.length = n at *
    go_enter Try.func29, Try.ntmps29
    go_wp2_with fail
    refine (HChk.out _ hb0.out).mono ?_; rintro e w1 ⟨rfl, hb1⟩
    have HB1 := Lib.hid (hb0.out.trans (hb1.mono hb0.out.size))
    clear hb1
    go_wp2
    go_ret
    refine ⟨?_, HB1.out⟩
    rw [HZ.out]
    rfl
end Go.Proofs.Ytjcijogdcafloaa
