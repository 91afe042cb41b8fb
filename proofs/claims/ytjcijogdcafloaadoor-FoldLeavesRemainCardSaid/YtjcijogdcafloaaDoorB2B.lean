/- The walk of FoldLeavesBackToBack. -/
import Derived.Test.YtjcijogdcafloaaDoorPrint
import Derived.RegionTactic
import Derived.ChangeAlike
import Derived.BigRegion
namespace Go.Proofs.YtjcijogdcafloaaDoor
open Go.RowKit
def PagesErr (z : Int) (w : World) (e : Ending) (w' : World) : Prop := e = .returned (.tuple #[.slice none 0 0, .int .i64 z]) ∧ Below w.heap.size w w'
set_option maxHeartbeats 4000000 in
theorem pages_bad (C R : Int) (v : Value) (l : List Step) (w : World) (hI : Sv w v l) (hz : foldedZ C R l ≠ 0) :
    Calls Tryd.prog 10 #[.agg #[.int .i64 C, .int .i64 R, v]] w (PagesErr (foldedZ C R l) w) := by
  have HI := Lib.hid hI
  obtain ⟨Av, cv, ev⟩ := SlM.form HI.out
  have hFo : Hid (∀ w', Below w.heap.size w w' → Calls Tryd.prog 23 #[.agg #[.int .i64 C, .int .i64 R, v]] w' (FoldedErr (foldedZ C R l) w')) := fun w' hb => folded_bad C R v l w' (SlM.later HI.out hb) hz
  have HE : Hid (∀ e w', PagesErr (foldedZ C R l) w e w' = (e = .returned (.tuple #[.slice none 0 0, .int .i64 (foldedZ C R l)]) ∧ Below w.heap.size w w')) := fun _ _ => rfl
  generalize PagesErr (foldedZ C R l) w = Post at *
  generalize foldedZ C R l = z at *
  generalize l.length = n at *
  have hz1 : (z != 0) = true := by simpa using hz
  have hb0 := Lib.hid ((Below.refl w.heap.size w).alloc (Nat.le_refl _) (Obj.cells #[.int .i64 C, .int .i64 R, v] 24))
  subst ev
  clear hI hz
  go_enter Tryd.func10, Tryd.ntmps10
  go_wp2_with fail
  refine (hFo.out _ hb0.out).mono ?_; rintro e w1 ⟨rfl, hb1⟩
  have HBe := Lib.hid (hb0.out.trans (hb1.mono hb0.out.size))
  clear hb1
  go_wp2
  rw [HE.out]
  exact ⟨rfl, HBe.out⟩
/-- The cells of the pages. -/
def pgN (l : List Pg) (i : Nat) : Pg := l.getD i ⟨false, 0, 0, 0⟩
theorem pcells_at (l : List Pg) (i j : Nat) (hi : i < l.length) (hj : j < 4) : (pcells l)[i * 4 + j]? = (pcell (pgN l i))[j]? := by
  induction l generalizing i with
  | nil => simp at hi
  | cons p l ih =>
    cases i with
    | zero =>
      have : pgN (p :: l) 0 = p := rfl
      rw [this]
      simp only [pcells, List.flatMap_cons]
      rw [List.getElem?_append_left (by simp [pcell]; omega)]; simp
    | succ i =>
      have e : pgN (p :: l) (i + 1) = pgN l i := rfl
      rw [e, ← ih i (by simpa using hi)]
      simp only [pcells, List.flatMap_cons]
      rw [List.getElem?_append_right (by simp [pcell]; omega)]
      congr 1; simp [pcell]; omega
theorem pages_cells {w : World} {B : Nat} {v : Value} {ps : List Pg} (h : w.ownsRow B 31 4 v ps.length (pcells ps)) (hn : 0 < ps.length) : ∃ g cap, v = .slice (some ⟨g, 0, none⟩) ps.length cap ∧ g < w.heap.size ∧ ps.length ≤ cap ∧ B ≤ g ∧
    ∀ i, i < ps.length → w.cell? ⟨g, i * 4, none⟩ = some (.bool (pgN ps i).back) ∧ w.cell? ⟨g, i * 4 + 1, none⟩ = some (.int .i64 ((pgN ps i).col : Int)) ∧ w.cell? ⟨g, i * 4 + 2, none⟩ = some (.int .i64 ((pgN ps i).row : Int)) ∧ w.cell? ⟨g, i * 4 + 3, none⟩ = some (.int .i64 ((pgN ps i).turn : Int)) := by
  obtain ⟨g, cap, rfl, hB, hlt⟩ := h.form hn
  have hc : ∀ i j, i < ps.length → j < 4 → w.cell? ⟨g, i * 4 + j, none⟩ = (pcell (pgN ps i))[j]? := by
    intro i j hi hj
    rw [← pcells_at ps i j hi hj]
    exact h.cellAt (i * 4 + j) (by omega)
  exact ⟨g, cap, rfl, hlt, (SlM.caps (SlM.of_own h)).2.1, hB, fun i hi => ⟨hc i 0 hi (by omega), hc i 1 hi (by omega), hc i 2 hi (by omega), hc i 3 hi (by omega)⟩⟩
theorem pgN_pages (C t : Nat) (l : List Leaf) (i : Nat) (hi : i < l.length) : pgN (pagesOf C t l) (2 * i) = pgUp C t (lf l i) ∧ pgN (pagesOf C t l) (2 * i + 1) = pgDown C t (lf l i) := by
  obtain ⟨h1, h2⟩ := pagesOf_get C t l i hi
  unfold pgN
  rw [List.getD_eq_getElem?_getD, List.getD_eq_getElem?_getD, h1, h2, lf_eq l hi]
  exact ⟨rfl, rfl⟩
set_option maxRecDepth 100000 in
set_option maxHeartbeats 8000000 in
theorem b2b_any (C R : Int) (v : Value) (l : List Step) (w : World) (hI : Sv w v l) :
    Calls Tryd.prog 3 #[.agg #[.int .i64 C, .int .i64 R, v]] w fun e w' => e = .returned (.bool true) ∧ Below w.heap.size w w' := by
  have HI := Lib.hid hI
  obtain ⟨Av, cv, ev⟩ := SlM.form HI.out
  have HF := Lib.hid folds_any
  have hb0 := Lib.hid ((Below.refl w.heap.size w).alloc (Nat.le_refl _) (Obj.cells #[.int .i64 C, .int .i64 R, v] 24))
  have hbl0 := Lib.hid (Blk.new w 24 #[.int .i64 C, .int .i64 R, v])
  by_cases hz : foldedZ C R l = 0
  · obtain ⟨c, r, rfl, rfl, hg, hw⟩ := foldedZ_zero hz
    have hPg : Hid (∀ w', Below w.heap.size w w' → Calls Tryd.prog 10 #[.agg #[.int .i64 (c : Int), .int .i64 (r : Int), v]] w' (PagesPost (pagesOf c (turnOf (lastSide l)) (endPile c r l)) w')) := fun w' hb => pages_ok c r v l w' (SlM.later HI.out hb) hg hw
    have hel := end_length hg.ok hw.1 hw.2
    have hin : Hid (∀ x ∈ endPile c r l, x.c < c) := fun x hx => (end_in hw.1 hw.2 hx).1
    have htl := turnOf_lt (lastSide l)
    have hpos : 0 < r * c := Nat.mul_pos hg.r1 hg.c1
    have hcr := hg.cr
    have hc1 := hg.c1
    have hc8 := hg.c8
    generalize turnOf (lastSide l) = t at *
    generalize endPile c r l = pile at *
    generalize r * c = m at *
    have HLn := Lib.hid hel
    generalize l.length = n at *
    clear hI hz hg hw hel
    subst ev
    go_enter Tryd.func3, Tryd.ntmps3
    go_wp2_with fail
    refine (HF.out _).mono ?_; rintro e w1 ⟨rfl, hb1⟩
    have hx0 := hbl0.out.below hb1 hbl0.out.lt
    have HB1 := Lib.hid (hb0.out.trans (hb1.mono hb0.out.size))
    have c0 : w1.cell? ⟨w.heap.size, 0, none⟩ = some (.int .i64 (c : Int)) := hx0.cell 0
    have c1 : w1.cell? ⟨w.heap.size, 1, none⟩ = some (.int .i64 (r : Int)) := hx0.cell 1
    have c2 : w1.cell? ⟨w.heap.size, 2, none⟩ = some (.slice Av n cv) := hx0.cell 2
    have HX0 := Lib.hid hx0
    clear hb1 hx0
    go_wp2_with fail
    refine (hPg.out _ HB1.out).mono ?_; rintro e w2 ⟨vp, rfl, ho, hb2⟩
    obtain ⟨g, cap, rfl, hgl, hcap, _, hcells⟩ := pages_cells ho (by rw [pagesOf_length, HLn.out]; omega)
    have HX2 := Lib.hid (HX0.out.below hb2 HX0.out.lt)
    have HB2 := Lib.hid (HB1.out.trans (hb2.mono HB1.out.size))
    have HCe := Lib.hid hcells
    have HL2 : Hid ((pagesOf c t pile).length = 2 * m) := by unfold Hid; rw [pagesOf_length, HLn.out]
    rw [HL2.out] at hcap
    have e2 := HL2.out
    clear hcells ho hb2 c0 c1 c2
    rw [e2]
    clear e2
    generalize hM : 2 * m = M at *
    have HM := Lib.hid hM
    have hM2 : M ≤ 64 := by omega
    go_wp2
    go_loopw [5] (fun vi wr => ∃ j : Nat, j ≤ m ∧ vi = .int .i64 ((2 * j : Nat) : Int) ∧ Below w2.heap.size w2 wr) (fun i _ => M - (intOf i).toNat)
    case atStart => exact ⟨0, by omega, rfl, Below.refl _ _⟩
    case round =>
      obtain ⟨j, hj, rfl, hb⟩ := hrel
      by_cases hlt : j < m
      · obtain ⟨p1, p2⟩ := pgN_pages c t pile j (by rw [HLn.out]; exact hlt)
        obtain ⟨a0, a1, a2, a3⟩ := HCe.out (2 * j) (by rw [HL2.out]; omega)
        obtain ⟨b0, b1, b2, b3⟩ := HCe.out (2 * j + 1) (by rw [HL2.out]; omega)
        rw [p1] at a0 a1 a2 a3
        rw [p2] at b0 b1 b2 b3
        have hxin := hin.out (lf pile j) (by rw [lf_eq pile (by rw [HLn.out]; exact hlt)]; exact List.getElem_mem _)
        obtain ⟨q1, q2, q3, q4⟩ := back_to_back c t htl (lf pile j) hxin
        have q5 := (pg_turn c t htl (lf pile j) ((lf pile j).fx != (lf pile j).fy) (lf pile j).fy).1
        have q6 := (pg_turn c t htl (lf pile j) (!((lf pile j).fx != (lf pile j).fy)) ((lf pile j).fy != (t % 2 == 1))).1
        have hdc : (pgDown c t (lf pile j)).col ≤ c - 1 := by unfold pgDown pg; dsimp only; split <;> omega
        change (pgUp c t (lf pile j)).turn < 4 at q5
        change (pgDown c t (lf pile j)).turn < 4 at q6
        generalize pgUp c t (lf pile j) = a at *
        generalize pgDown c t (lf pile j) = b at *
        obtain ⟨ab, ac, ar, at'⟩ := a
        obtain ⟨bb, bc, br, bt⟩ := b
        dsimp only at a0 a1 a2 a3 b0 b1 b2 b3 q1 q2 q3 q4 q5 q6 hdc
        subst q2
        clear p1 p2
        have a0 := (hb.cell (p := ⟨g, 2 * j * 4, none⟩) hgl).trans a0
        have a1 := (hb.cell (p := ⟨g, 2 * j * 4 + 1, none⟩) hgl).trans a1
        have a2 := (hb.cell (p := ⟨g, 2 * j * 4 + 2, none⟩) hgl).trans a2
        have a3 := (hb.cell (p := ⟨g, 2 * j * 4 + 3, none⟩) hgl).trans a3
        have b0 := (hb.cell (p := ⟨g, (2 * j + 1) * 4, none⟩) hgl).trans b0
        have b1 := (hb.cell (p := ⟨g, (2 * j + 1) * 4 + 1, none⟩) hgl).trans b1
        have b2 := (hb.cell (p := ⟨g, (2 * j + 1) * 4 + 2, none⟩) hgl).trans b2
        have b3 := (hb.cell (p := ⟨g, (2 * j + 1) * 4 + 3, none⟩) hgl).trans b3
        have hjm : 2 * j + 1 < M := by omega
        have HJ : Hid (2 * j + 2 = 2 * (j + 1)) := by unfold Hid; omega
        generalize 2 * j = i at *
        have HB := Lib.hid hb
        have Q1 := Lib.hid q1
        have Q3 := Lib.hid q3
        have Q4 := Lib.hid q4
        clear hb q1 q3 q4
        have e1 : IntKind.i64.wrap ((i : Int) + 1) = (i : Int) + 1 := by rw [IntKind.wrap_i64]; omega
        go_wp2
        go_cut [6, 7] (fun v6 v7 wx => ∃ Ba Bb : Nat, v6 = .pointer (some ⟨Ba, 0, none⟩) ∧ v7 = .pointer (some ⟨Bb, 0, none⟩) ∧ Blk wx Ba 31 #[.bool ab, .int .i64 (ac : Int), .int .i64 (ar : Int), .int .i64 (at' : Int)] ∧ Blk wx Bb 31 #[.bool bb, .int .i64 (bc : Int), .int .i64 (ar : Int), .int .i64 (bt : Int)] ∧ Below w2.heap.size w2 wx)
        case first =>
          have hbs := HB.out.size
          have hgw : g < wr.heap.size := by omega
          have hiM : i < M := by omega
          have k1 : Hid (Blk ((wr.alloc (.cells #[.bool ab, .int .i64 (ac : Int), .int .i64 (ar : Int), .int .i64 (at' : Int)] 31)).alloc (.cells #[.bool bb, .int .i64 (bc : Int), .int .i64 (ar : Int), .int .i64 (bt : Int)] 31)).drew wr.heap.size 31 #[.bool ab, .int .i64 (ac : Int), .int .i64 (ar : Int), .int .i64 (at' : Int)] ∧ Blk ((wr.alloc (.cells #[.bool ab, .int .i64 (ac : Int), .int .i64 (ar : Int), .int .i64 (at' : Int)] 31)).alloc (.cells #[.bool bb, .int .i64 (bc : Int), .int .i64 (ar : Int), .int .i64 (bt : Int)] 31)).drew (wr.heap.size + 1) 31 #[.bool bb, .int .i64 (bc : Int), .int .i64 (ar : Int), .int .i64 (bt : Int)] ∧ Below w2.heap.size w2 ((wr.alloc (.cells #[.bool ab, .int .i64 (ac : Int), .int .i64 (ar : Int), .int .i64 (at' : Int)] 31)).alloc (.cells #[.bool bb, .int .i64 (bc : Int), .int .i64 (ar : Int), .int .i64 (bt : Int)] 31)).drew) :=
            ⟨(Blk.new wr _ _).alloc _, by have := Blk.new (wr.alloc (.cells #[.bool ab, .int .i64 (ac : Int), .int .i64 (ar : Int), .int .i64 (at' : Int)] 31)) 31 #[.bool bb, .int .i64 (bc : Int), .int .i64 (ar : Int), .int .i64 (bt : Int)]; rw [World.size_alloc] at this; exact this.drew, ((HB.out.alloc hbs _).alloc (by simp; omega) _).drew⟩
          have k2 : Hid (Blk ((wr.alloc (.cells #[.bool bb, .int .i64 (bc : Int), .int .i64 (ar : Int), .int .i64 (bt : Int)] 31)).alloc (.cells #[.bool ab, .int .i64 (ac : Int), .int .i64 (ar : Int), .int .i64 (at' : Int)] 31)).drew wr.heap.size 31 #[.bool bb, .int .i64 (bc : Int), .int .i64 (ar : Int), .int .i64 (bt : Int)] ∧ Blk ((wr.alloc (.cells #[.bool bb, .int .i64 (bc : Int), .int .i64 (ar : Int), .int .i64 (bt : Int)] 31)).alloc (.cells #[.bool ab, .int .i64 (ac : Int), .int .i64 (ar : Int), .int .i64 (at' : Int)] 31)).drew (wr.heap.size + 1) 31 #[.bool ab, .int .i64 (ac : Int), .int .i64 (ar : Int), .int .i64 (at' : Int)] ∧ Below w2.heap.size w2 ((wr.alloc (.cells #[.bool bb, .int .i64 (bc : Int), .int .i64 (ar : Int), .int .i64 (bt : Int)] 31)).alloc (.cells #[.bool ab, .int .i64 (ac : Int), .int .i64 (ar : Int), .int .i64 (at' : Int)] 31)).drew) :=
            ⟨(Blk.new wr _ _).alloc _, by have := Blk.new (wr.alloc (.cells #[.bool bb, .int .i64 (bc : Int), .int .i64 (ar : Int), .int .i64 (bt : Int)] 31)) 31 #[.bool ab, .int .i64 (ac : Int), .int .i64 (ar : Int), .int .i64 (at' : Int)]; rw [World.size_alloc] at this; exact this.drew, ((HB.out.alloc hbs _).alloc (by simp; omega) _).drew⟩
          go_region
          all_goals
            go_wp2
            go_meet
            first
              | exact ⟨_, _, rfl, rfl, k1.out.1, k1.out.2.1, k1.out.2.2⟩
              | exact ⟨_, _, rfl, rfl, k2.out.2.1, k2.out.1, k2.out.2.2⟩
        case rest =>
        obtain ⟨Ba, Bb, rfl, rfl, kA, kB, hb3⟩ := hcut
        clear a0 a1 a2 a3 b0 b1 b2 b3 e1
        have a0 : wc.cell? ⟨Ba, 0, none⟩ = some (.bool ab) := kA.cell 0
        have a1 : wc.cell? ⟨Ba, 1, none⟩ = some (.int .i64 (ac : Int)) := kA.cell 1
        have a2 : wc.cell? ⟨Ba, 2, none⟩ = some (.int .i64 (ar : Int)) := kA.cell 2
        have a3 : wc.cell? ⟨Ba, 3, none⟩ = some (.int .i64 (at' : Int)) := kA.cell 3
        have b0 : wc.cell? ⟨Bb, 0, none⟩ = some (.bool bb) := kB.cell 0
        have b1 : wc.cell? ⟨Bb, 1, none⟩ = some (.int .i64 (bc : Int)) := kB.cell 1
        have b2 : wc.cell? ⟨Bb, 2, none⟩ = some (.int .i64 (ar : Int)) := kB.cell 2
        have b3 : wc.cell? ⟨Bb, 3, none⟩ = some (.int .i64 (bt : Int)) := kB.cell 3
        have x0 : wc.cell? ⟨w.heap.size, 0, none⟩ = some (.int .i64 (c : Int)) := (HX2.out.below hb3 HX2.out.lt).cell 0
        have eB : (ab == bb) = false := by have := Q1.out; cases ab <;> cases bb <;> simp_all
        have eC : ((ac : Int) == (c : Int) - 1 - (bc : Int)) = true := by rw [beq_iff_eq]; have := Q3.out; omega
        have eC' : ((ac : Int) != (c : Int) - 1 - (bc : Int)) = false := by simp only [bne, eC]; rfl
        have eT : (((at' : Int) + (bt : Int)) % 4 == 0) = true := by rw [beq_iff_eq]; have := Q4.out; omega
        have eT' : (((at' : Int) + (bt : Int)) % 4 != 0) = false := by simp only [bne, eT]; rfl
        have HB3 := Lib.hid hb3
        clear kA kB hb3
        go_wp2
        refine ⟨⟨j + 1, by omega, ?_, HB3.out⟩, by simp [intOf]; omega⟩
        rw [← HJ.out]; go_num
      · obtain rfl : j = m := by omega
        rw [HM.out]
        have HB := Lib.hid hb
        clear hb
        go_wp2
        go_ret
        exact ⟨rfl, HB2.out.trans (HB.out.mono (by have := HB2.out.size; omega))⟩
  · have hPg : Hid (∀ w', Below w.heap.size w w' → Calls Tryd.prog 10 #[.agg #[.int .i64 C, .int .i64 R, v]] w' (PagesErr (foldedZ C R l) w')) := fun w' hb => pages_bad C R v l w' (SlM.later HI.out hb) hz
    have hz1 : (foldedZ C R l != 0) = true := by simpa using hz
    generalize foldedZ C R l = z at *
    generalize l.length = n at *
    clear hI hz
    subst ev
    go_enter Tryd.func3, Tryd.ntmps3
    go_wp2_with fail
    refine (HF.out _).mono ?_; rintro e w1 ⟨rfl, hb1⟩
    have hx0 := hbl0.out.below hb1 hbl0.out.lt
    have HB1 := Lib.hid (hb0.out.trans (hb1.mono hb0.out.size))
    have c0 : w1.cell? ⟨w.heap.size, 0, none⟩ = some (.int .i64 C) := hx0.cell 0
    have c1 : w1.cell? ⟨w.heap.size, 1, none⟩ = some (.int .i64 R) := hx0.cell 1
    have c2 : w1.cell? ⟨w.heap.size, 2, none⟩ = some (.slice Av n cv) := hx0.cell 2
    clear hb1 hx0
    go_wp2_with fail
    refine (hPg.out _ HB1.out).mono ?_; rintro e w2 ⟨rfl, hb2⟩
    have HB2 := Lib.hid (HB1.out.trans (hb2.mono HB1.out.size))
    clear hb2 c0 c1 c2
    go_wp2
    go_ret
    exact ⟨rfl, HB2.out⟩
end Go.Proofs.YtjcijogdcafloaaDoor
