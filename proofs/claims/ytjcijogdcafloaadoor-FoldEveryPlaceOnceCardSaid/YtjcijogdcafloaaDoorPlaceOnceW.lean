/- The walk of FoldEveryPlaceOnce. -/
import Derived.Test.YtjcijogdcafloaaDoorPlaceOnce
namespace Go.Proofs.YtjcijogdcafloaaDoor
open Go.RowKit
set_option maxRecDepth 100000 in
set_option maxHeartbeats 8000000 in
theorem placeonce_any (C R : Int) (v : Value) (l : List Step) (w : World) (hI : Sv w v l) :
    Calls Tryd.prog 4 #[.agg #[.int .i64 C, .int .i64 R, v]] w fun e w' => e = .returned (.bool true) ∧ Below w.heap.size w w' := by
  have HI := Lib.hid hI
  obtain ⟨Av, cv, ev⟩ := SlM.form HI.out
  have HF := Lib.hid folds_any
  have hb0 := Lib.hid ((Below.refl w.heap.size w).alloc (Nat.le_refl _) (Obj.cells #[.int .i64 C, .int .i64 R, v] 24))
  have hbl0 := Lib.hid (Blk.new w 24 #[.int .i64 C, .int .i64 R, v])
  by_cases hz : foldedZ C R l = 0
  · obtain ⟨c, r, rfl, rfl, hg, hw⟩ := foldedZ_zero hz
    have hPg : Hid (∀ w', Below w.heap.size w w' → Calls Tryd.prog 10 #[.agg #[.int .i64 (c : Int), .int .i64 (r : Int), v]] w' (PagesPost (pagesOf c (turnOf (lastSide l)) (endPile c r l)) w')) := fun w' hb => pages_ok c r v l w' (SlM.later HI.out hb) hg hw
    have hel := end_length hg.ok hw.1 hw.2
    have htl := turnOf_lt (lastSide l)
    have hpos : 0 < c * r := Nat.mul_pos hg.c1 hg.r1
    have hcr : c * r ≤ 32 := by rw [Nat.mul_comm]; exact hg.cr
    have hc1 := hg.c1
    have hc8 := hg.c8
    have hr8 := hg.r8
    have hlen0 : (pagesOf c (turnOf (lastSide l)) (endPile c r l)).length = 2 * (c * r) := by rw [pagesOf_length, hel, Nat.mul_comm r c]
    have hInn : Hid (∀ p ∈ pagesOf c (turnOf (lastSide l)) (endPile c r l), p.col < c ∧ p.row < r ∧ p.turn < 4 ∧ p.turn % 2 = turnOf (lastSide l) % 2) := fun p hp => by
      obtain ⟨h1, h2⟩ := pages_in (R := r) (fun x hx => end_in hw.1 hw.2 hx) hp
      obtain ⟨h3, h4⟩ := pages_turn htl hp
      exact ⟨h1, h2, h3, h4⟩
    have hOne : Hid (∀ i, i < 2 * (c * r) → (pagesOf c (turnOf (lastSide l)) (endPile c r l)).countP (fun p => pidx c (c * r) p == i) = 1) := fun i hi =>
      pages_once (fun x hx => end_in hw.1 hw.2 hx) (fun i hi => end_once hg.ok hw.1 hw.2 hi) hi
    generalize turnOf (lastSide l) = t at *
    generalize pagesOf c t (endPile c r l) = ps at *
    have hmul : (c : Int) * (r : Int) = ((c * r : Nat) : Int) := by simp
    have hrow : Hid (∀ a b, a < c → b < r → b * c + a < c * r) := fun a b ha hb => by rw [Nat.mul_comm c r]; exact place_lt ha hb
    generalize hm : c * r = m at *
    have HMm := Lib.hid hm
    have HLn := Lib.hid hlen0
    generalize l.length = n at *
    clear hI hz hg hw hel hlen0 htl hm
    subst ev
    go_enter Tryd.func4, Tryd.ntmps4
    go_wp2_with fail
    refine (HF.out _).mono ?_; rintro e w1 ⟨rfl, hb1⟩
    have hx0 := hbl0.out.below hb1 hbl0.out.lt
    have HB1 := Lib.hid (hb0.out.trans (hb1.mono hb0.out.size))
    have c0 : w1.cell? ⟨w.heap.size, 0, none⟩ = some (.int .i64 (c : Int)) := hx0.cell 0
    have c1 : w1.cell? ⟨w.heap.size, 1, none⟩ = some (.int .i64 (r : Int)) := hx0.cell 1
    have c2 : w1.cell? ⟨w.heap.size, 2, none⟩ = some (.slice Av n cv) := hx0.cell 2
    have HX0 := Lib.hid hx0
    clear hb1 hx0
    go_wp2_with fail
    refine (hPg.out _ HB1.out).mono ?_; rintro e w2 ⟨vp, rfl, ho, hb2⟩
    obtain ⟨g, cap, rfl, hgl, hcap, _, hcells⟩ := pages_cells ho (by rw [HLn.out]; omega)
    have HX2 := Lib.hid (HX0.out.below hb2 HX0.out.lt)
    have HB2 := Lib.hid (HB1.out.trans (hb2.mono HB1.out.size))
    have HCe := Lib.hid hcells
    rw [HLn.out] at hcap
    have e2 := HLn.out
    clear hcells ho hb2 c0 c1 c2
    rw [e2]
    clear e2
    have c0 : w2.cell? ⟨w.heap.size, 0, none⟩ = some (.int .i64 (c : Int)) := HX2.out.cell 0
    have c1 : w2.cell? ⟨w.heap.size, 1, none⟩ = some (.int .i64 (r : Int)) := HX2.out.cell 1
    generalize hM : 2 * m = M at *
    have HM := Lib.hid hM
    have hM2 : M ≤ 64 := by omega
    have e1 : (2 : Int) * (m : Int) = (M : Int) := by omega
    have hmk := run_make1 eInt rfl M (M : Int) rfl (by omega) (by omega)
    have HIR := Lib.hid (IRow.zeros w2 3 M)
    go_wp2
    clear hmk c0 c1
    go_loopw [32] (fun vj wr => ∃ j : Nat, j ≤ M ∧ vj = .int .i64 j ∧ IRow wr w2.heap.size (cntRow M (pidx c m) (ps.take j)) ∧ Below w2.heap.size w2 wr) (fun j _ => M - (intOf j).toNat)
    case atStart => exact ⟨0, by omega, rfl, by rw [List.take_zero, cntRow_nil]; exact HIR.out, (Below.refl _ _).alloc (Nat.le_refl _) _⟩
    case round =>
      obtain ⟨j, hj, rfl, hir, hb⟩ := hrel
      by_cases hlt : j < M
      · obtain ⟨a0, a1, a2, a3⟩ := HCe.out j (by rw [HLn.out]; exact hlt)
        obtain ⟨_, _, _, z3⟩ := HCe.out 0 (by rw [HLn.out]; omega)
        have hmem : ∀ i, i < M → pgN ps i ∈ ps := fun i hi => by
          unfold pgN; rw [List.getD_eq_getElem?_getD, List.getElem?_eq_getElem (by rw [HLn.out]; exact hi)]; exact List.getElem_mem _
        obtain ⟨i1, i2, i3, i4⟩ := hInn.out _ (hmem j hlt)
        obtain ⟨k1, k2, k3, k4⟩ := hInn.out _ (hmem 0 (by omega))
        have HTk : Hid (ps.take (j + 1) = ps.take j ++ [pgN ps j]) := by
          unfold Hid pgN; rw [List.take_succ_eq_append_getElem (by rw [HLn.out]; exact hlt), List.getD_eq_getElem?_getD, List.getElem?_eq_getElem (by rw [HLn.out]; exact hlt)]; rfl
        have hro := hrow.out _ _ i1 i2
        have HIdx : Hid (∀ p : Pg, pidx c m p = p.row * c + p.col + if p.back then m else 0) := fun _ => rfl
        have hIdxLt : pidx c m (pgN ps j) < M := by rw [HIdx.out]; split <;> omega
        have a0 := (hb.cell (p := ⟨g, j * 4, none⟩) hgl).trans a0
        have a1 := (hb.cell (p := ⟨g, j * 4 + 1, none⟩) hgl).trans a1
        have a2 := (hb.cell (p := ⟨g, j * 4 + 2, none⟩) hgl).trans a2
        have a3 := (hb.cell (p := ⟨g, j * 4 + 3, none⟩) hgl).trans a3
        have z3 : wr.cell? ⟨g, 3, none⟩ = _ := (hb.cell (p := ⟨g, 0 * 4 + 3, none⟩) hgl).trans z3
        have HSn := Lib.hid (cntRow_snoc M (pidx c m) (ps.take j) (pgN ps j) hIdxLt)
        have HPi := Lib.hid (HIdx.out (pgN ps j))
        have hcnt : 0 ≤ (cntRow M (pidx c m) (ps.take j)).getD (pidx c m (pgN ps j)) 0 ∧ (cntRow M (pidx c m) (ps.take j)).getD (pidx c m (pgN ps j)) 0 ≤ 64 := by
          rw [cntRow_at M _ _ hIdxLt]
          have h1 := List.countP_le_length (p := fun p => pidx c m p == pidx c m (pgN ps j)) (l := ps.take j)
          rw [List.length_take] at h1
          omega
        have hcl : (cntRow M (pidx c m) (ps.take j)).length = M := cntRow_length _ _ _
        have hkc := hir.at_ (i := pidx c m (pgN ps j)) (by rw [hcl]; exact hIdxLt)
        have hkf := hir.free_ (i := pidx c m (pgN ps j)) (by rw [hcl]; exact hIdxLt)
        have HPut := Lib.hid (fun o : Obj => (Row.alloc hir o : IRow (wr.alloc o) w2.heap.size _))
        have hgs : w2.heap.size < wr.heap.size := hir.lt
        clear hir
        generalize hkk : pidx c m (pgN ps j) = kk at *
        generalize (pgN ps 0).turn = tn0 at *
        generalize pgN ps j = p at *
        generalize cntRow M (pidx c m) (ps.take j) = row at *
        generalize row.getD kk 0 = cv0 at *
        obtain ⟨pb, pc, pr, pt⟩ := p
        dsimp only at a0 a1 a2 a3 i1 i2 i3 i4 hro HPi
        have hmul2 : (pr : Int) * (c : Int) = ((pr * c : Nat) : Int) := by simp
        generalize hrc : pr * c = rc at *
        have HB := Lib.hid hb
        have x0 : wr.cell? ⟨w.heap.size, 0, none⟩ = some (.int .i64 (c : Int)) := (HX2.out.below hb HX2.out.lt).cell 0
        have x1 : wr.cell? ⟨w.heap.size, 1, none⟩ = some (.int .i64 (r : Int)) := (HX2.out.below hb HX2.out.lt).cell 1
        have hz2 : w.heap.size < wr.heap.size := by have := HX2.out.lt; omega
        have hgw : g < wr.heap.size := by omega
        have q1 : decide ((pc : Int) < 0) = false := by simp
        have q2 : decide ((pr : Int) < 0) = false := by simp
        have q3 : decide ((c : Int) ≤ (pc : Int)) = false := by simp; omega
        have q4 : decide ((r : Int) ≤ (pr : Int)) = false := by simp; omega
        have q5 : decide ((pt : Int) < 0) = false := by simp
        have q6 : decide ((3 : Int) < (pt : Int)) = false := by simp; omega
        have q7 : ((pt : Int).tmod 2) = ((t % 2 : Nat) : Int) := by rw [Int.tmod_eq_emod_of_nonneg (by omega)]; omega
        have q8 : ((tn0 : Int).tmod 2) = ((t % 2 : Nat) : Int) := by rw [Int.tmod_eq_emod_of_nonneg (by omega)]; omega
        generalize hq : t % 2 = q at *
        have hq2 : q < 2 := by omega
        have q9 : IntKind.i64.wrap (q : Int) = (q : Int) := by rw [IntKind.wrap_i64]; omega
        clear hb hrc
        have h0M : 0 < M := by omega
        have h0M' : (0 : Int) < (M : Int) := by omega
        go_wp2
        go_quiet (fail)
        clear q1 q2 q3 q4 q5 q6 q7 q8 q9
        go_upto_if 88 with (fail)
        go_cut [9] (fun v9 wx => v9 = .int .i64 (kk : Int) ∧ wx = (wr.alloc (Obj.cells #[.bool pb, .int .i64 (pc : Int), .int .i64 (pr : Int), .int .i64 (pt : Int)] 31)).drewN nq)
        case first =>
          have hpi := HPi.out
          cases pb
          · simp only [Bool.false_eq_true, if_false] at hpi
            have HPj := Lib.hid hpi
            clear hpi
            go_wp2
            go_meet
            exact ⟨valInt (by rw [HPj.out]; omega), rfl⟩
          · simp only [if_true] at hpi
            have HPj := Lib.hid hpi
            clear hpi
            go_wp2
            go_meet
            exact ⟨valInt (by rw [HPj.out]; omega), rfl⟩
        case rest =>
        obtain ⟨rfl, rfl⟩ := hcut
        obtain ⟨cn0, cn1⟩ := hcnt
        go_wp2
        go_roundw
        case rel =>
          refine ⟨j + 1, by omega, by go_num, ?_, ?_⟩
          · rw [HTk.out, HSn.out]
            exact Row.drewN (IRow.put (HPut.out (Obj.cells #[.bool pb, .int .i64 (pc : Int), .int .i64 (pr : Int), .int .i64 (pt : Int)] 31)) (k := kk) (by rw [hcl]; exact hIdxLt) (cv0 + 1)) nq
          · exact below_drewN ((HB.out.alloc HB.out.size _).setCell (p := ⟨w2.heap.size, kk, none⟩) (Nat.le_refl _) _) nq
        case measure => simp [intOf]; omega
      · obtain rfl : j = M := by omega
        have hones : ∀ i, i < j → wr.cell? ⟨w2.heap.size, i, none⟩ = some (.int .i64 1) := fun i hi => by
          have h1 := hir.at_ (i := i) (by rw [cntRow_length]; exact hi)
          rw [cntRow_at _ _ _ hi, List.take_of_length_le (by rw [HLn.out]; exact Nat.le_refl _), hOne.out i hi] at h1
          exact h1
        have HOn := Lib.hid hones
        have HB := Lib.hid hb
        clear hir hb hones
        go_wp2_with (go_at_call 11; refine (contf_a _ j j _ (by omega) HOn.out).mono ?_; rintro e w' ⟨rfl, rfl⟩)
        go_ret
        exact ⟨rfl, HB2.out.trans (HB.out.mono (by have := HB2.out.size; omega))⟩
  · have hPg : Hid (∀ w', Below w.heap.size w w' → Calls Tryd.prog 10 #[.agg #[.int .i64 C, .int .i64 R, v]] w' (PagesErr (foldedZ C R l) w')) := fun w' hb => pages_bad C R v l w' (SlM.later HI.out hb) hz
    have hz1 : (foldedZ C R l != 0) = true := by simpa using hz
    generalize foldedZ C R l = z at *
    generalize l.length = n at *
    clear hI hz
    subst ev
    go_enter Tryd.func4, Tryd.ntmps4
    go_wp2_with fail
    refine (HF.out _).mono ?_; rintro e w1 ⟨rfl, hb1⟩
    have hx0 := hbl0.out.below hb1 hbl0.out.lt
    have HB1 := Lib.hid (hb0.out.trans (hb1.mono hb0.out.size))
    have c0 : w1.cell? ⟨w.heap.size, 0, none⟩ = some (.int .i64 C) := hx0.cell 0
    have c1 : w1.cell? ⟨w.heap.size, 1, none⟩ = some (.int .i64 R) := hx0.cell 1
    have c2 : w1.cell? ⟨w.heap.size, 2, none⟩ = some (.slice Av n cv) := hx0.cell 2
    clear hb1 hx0
    go_wp2_with fail
    refine (hPg.out _ HB1.out).mono ?_; rintro e w2 ⟨rfl, hb2⟩
    have HB2 := Lib.hid (HB1.out.trans (hb2.mono HB1.out.size))
    clear hb2 c0 c1 c2
    go_wp2
    go_ret
    exact ⟨rfl, HB2.out⟩
end Go.Proofs.YtjcijogdcafloaaDoor
