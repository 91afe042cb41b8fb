/- The walk of ImposeRegisters. -/
import Derived.Test.YtjcijogdcafloaaFind
namespace Go.Proofs.Ytjcijogdcafloaa
open Go.RowKit
/-- The layout with two plates. -/
def LayI.two (I : LayI) : LayI := { I with style := 0 }
/-- The two pages of leaf k, as find answers. -/
structure PairIn (L : Lay) (F Bk : List Pla) (k : Nat) (p q : Pla) (bp bq : Bool) : Prop where
  fp : found F Bk (2 * (k : Int) + 1) = (p, bp)
  fq : found F Bk (2 * (k : Int) + 1 + 1) = (q, bq)
  pp : p.page = 2 * k + 1
  qp : q.page = 2 * k + 2
  bk : bp ≠ bq
  x0 : p.x = L.sw - (q.x + L.bw q.turn)
  x1 : p.x + L.bw p.turn = L.sw - q.x
  y0 : p.y = q.y
  y1 : p.y + L.bh p.turn = q.y + L.bh q.turn
  px : 0 ≤ p.x ∧ p.x ≤ 100000 ∧ 0 ≤ p.y ∧ p.y ≤ 100000 ∧ 0 ≤ p.turn ∧ p.turn < 4
  qx : 0 ≤ q.x ∧ q.x ≤ 100000 ∧ 0 ≤ q.y ∧ q.y ≤ 100000 ∧ 0 ≤ q.turn ∧ q.turn < 4
theorem pair_in {L : Lay} {v : Value} {l : List Step} (h : LB L v l) (ok : L.Ok) (hs : L.style = 0) (hpw : L.pw ≤ 1024) (hph : L.ph ≤ 1024) {k : Nat} (hk : k < L.C * L.R) :
    ∃ p q bp bq, PairIn L (L.frontTo (psOf L l) (2 * (L.C * L.R))) (L.backTo (psOf L l) (2 * (L.C * L.R))) k p q bp bq := by
  have hps := psOf_pages h
  have hlen := psOf_length h
  have htl := turnOf_lt (lastSide l)
  have hlaw := leaf_law ok hs htl h.odd (l := endPile L.C L.R l) (fun x hx => end_in h.whole.1 h.whole.2 hx) (by rw [end_length h.good.ok h.whole.1 h.whole.2, Nat.mul_comm]) hk
  have e1 := found_page hs (psOf L l) (i := 2 * k) (k := 2 * (L.C * L.R)) (by omega)
  have e2 := found_page hs (psOf L l) (i := 2 * k + 1) (k := 2 * (L.C * L.R)) (by omega)
  obtain ⟨a1, a2, a3, a4, a5, a6, a7⟩ := hlaw
  have rng : ∀ i, i < 2 * (L.C * L.R) → 0 ≤ (L.plc i ((psOf L l).getD i pg0)).x ∧ (L.plc i ((psOf L l).getD i pg0)).x ≤ 100000 ∧ 0 ≤ (L.plc i ((psOf L l).getD i pg0)).y ∧ (L.plc i ((psOf L l).getD i pg0)).y ≤ 100000 ∧ 0 ≤ (L.plc i ((psOf L l).getD i pg0)).turn ∧ (L.plc i ((psOf L l).getD i pg0)).turn < 4 := fun i hi => by
    have hm : (psOf L l).getD i pg0 ∈ psOf L l := by rw [List.getD_eq_getElem?_getD, List.getElem?_eq_getElem (by omega)]; exact List.getElem_mem _
    obtain ⟨c1, c2, c3, c4⟩ := hps.inn _ hm
    obtain ⟨d1, d2, d3, d4⟩ := plc_in ok hi c1 c2 c3 c4
    have w1 := h.w1
    have h1 := h.h1
    have b1 : 1 ≤ L.bw (L.plc i ((psOf L l).getD i pg0)).turn ∧ 1 ≤ L.bh (L.plc i ((psOf L l).getD i pg0)).turn := by unfold Lay.bw Lay.bh; split <;> omega
    have ht : (L.plc i ((psOf L l).getD i pg0)).turn = (((psOf L l).getD i pg0).turn : Int) := by rw [plc_zero hs]
    exact ⟨by omega, by omega, by omega, by omega, by omega, by omega⟩
  have f1 : found (L.frontTo (psOf L l) (2 * (L.C * L.R))) (L.backTo (psOf L l) (2 * (L.C * L.R))) (2 * (k : Int) + 1) = (L.plc (2 * k) ((psOf L l).getD (2 * k) pg0), ((psOf L l).getD (2 * k) pg0).back) := by
    rw [← e1]; congr 1
  have f2 : found (L.frontTo (psOf L l) (2 * (L.C * L.R))) (L.backTo (psOf L l) (2 * (L.C * L.R))) (2 * (k : Int) + 1 + 1) = (L.plc (2 * k + 1) ((psOf L l).getD (2 * k + 1) pg0), ((psOf L l).getD (2 * k + 1) pg0).back) := by
    rw [← e2]; congr 1
  refine ⟨_, _, _, _, ⟨f1, f2, a1, a2, a3, a4, a5, a6, a7, rng _ (by omega), rng _ (by omega)⟩⟩
set_option maxRecDepth 100000 in
set_option maxHeartbeats 8000000 in
theorem reg_any (I : LayI) (v : Value) (l : List Step) (w : World) (hI : Sv w v l) :
    Calls Try.prog 4 #[I.val v] w fun e w' => e = .returned (.bool true) ∧ Below w.heap.size w w' := by
  have HI := Lib.hid hI
  have HF := Lib.hid imposes_any
  obtain ⟨Av, cv, ev⟩ := SlM.form hI
  by_cases hz : impZ I.two l = 0
  · obtain ⟨c, r, ec, er, hLB, ok, hpw, hph⟩ := impZ_zero v hz
    have hlen := psOf_length hLB
    have hcr := cr_pos hLB
    have hcr2 := ok.cr
    have eC : (I.two.lay l).C = c := by unfold LayI.lay; dsimp only; omega
    have eR : (I.two.lay l).R = r := by unfold LayI.lay; dsimp only; omega
    have hSh : Hid (∀ w', Below w.heap.size w w' → Calls Try.prog 10 #[I.two.val v, .int .i64 ((2 * (c * r) : Nat) : Int)] w' (SheetOk (I.two.lay l).pw (I.two.lay l).ph ((I.two.lay l).frontTo (psOf (I.two.lay l) l) (2 * (c * r))) ((I.two.lay l).backTo (psOf (I.two.lay l) l) (2 * (c * r))) w')) := fun w' hb => by
      have := sheet_any hz (psOf (I.two.lay l) l).length (Nat.le_refl _) w' (SlM.later HI.out hb)
      rw [hlen, eC, eR] at this; exact this
    have hPair : Hid (∀ k, k < c * r → ∃ p q bp bq, PairIn (I.two.lay l) ((I.two.lay l).frontTo (psOf (I.two.lay l) l) (2 * (c * r))) ((I.two.lay l).backTo (psOf (I.two.lay l) l) (2 * (c * r))) k p q bp bq) := fun k hk => by
      have := pair_in hLB ok rfl hpw hph (k := k) (by rw [eC, eR]; exact hk)
      rw [eC, eR] at this; exact this
    have hfl := (fam_front (I.two.lay l) (psOf (I.two.lay l) l) (2 * (c * r)))
    have hbl := (fam_back (I.two.lay l) (psOf (I.two.lay l) l) (2 * (c * r)))
    have hBox : Hid (∀ (p : Pla) (w : World), 0 ≤ p.x → p.x ≤ 100000 → 0 ≤ p.y → p.y ≤ 100000 → 0 ≤ p.turn → p.turn < 4 → Calls Try.prog 11 #[I.two.val v, .agg #[.int .i64 p.page, .int .i64 p.x, .int .i64 p.y, .int .i64 p.turn]] w fun e w' => e = .returned (.tuple #[.int .i64 p.x, .int .i64 p.y, .int .i64 (p.x + (I.two.lay l).bw p.turn), .int .i64 (p.y + (I.two.lay l).bh p.turn)]) ∧ Below w.heap.size w w') := fun p w' a b c d e f => by
      rw [layV_eq ec er, ev]
      exact box_any (I.two.lay l) Av l.length cv p w' hLB.w1 hLB.w2 hLB.h1 hLB.h2 a b c d e f
    have hpwe : (I.two.lay l).pw = (I.two.lay l).sw := rfl
    have hWd : Hid (∀ t, 1 ≤ (I.two.lay l).bw t ∧ (I.two.lay l).bw t ≤ 256 ∧ 1 ≤ (I.two.lay l).bh t ∧ (I.two.lay l).bh t ≤ 256) := fun t => by
      have := hLB.w1; have := hLB.w2; have := hLB.h1; have := hLB.h2
      unfold Lay.bw Lay.bh; split <;> omega
    have hPu : Hid (∀ F Bk k p q bp bq, PairIn (I.two.lay l) F Bk k p q bp bq → found F Bk (2 * (k : Int) + 1) = (p, bp) ∧ found F Bk (2 * (k : Int) + 1 + 1) = (q, bq) ∧ p.page = 2 * k + 1 ∧ q.page = 2 * k + 2 ∧ bp ≠ bq ∧ p.x = (I.two.lay l).pw - (q.x + (I.two.lay l).bw q.turn) ∧ p.x + (I.two.lay l).bw p.turn = (I.two.lay l).pw - q.x ∧ p.y = q.y ∧ p.y + (I.two.lay l).bh p.turn = q.y + (I.two.lay l).bh q.turn ∧ (0 ≤ p.x ∧ p.x ≤ 100000 ∧ 0 ≤ p.y ∧ p.y ≤ 100000 ∧ 0 ≤ p.turn ∧ p.turn < 4) ∧ (0 ≤ q.x ∧ q.x ≤ 100000 ∧ 0 ≤ q.y ∧ q.y ≤ 100000 ∧ 0 ≤ q.turn ∧ q.turn < 4)) := fun F Bk k p q bp bq h =>
      ⟨h.fp, h.fq, h.pp, h.qp, h.bk, by rw [hpwe]; exact h.x0, by rw [hpwe]; exact h.x1, h.y0, h.y1, h.px, h.qx⟩
    rw [eC, eR] at hcr hcr2
    have hc8 := hLB.good.c8
    have hr8 := hLB.good.r8
    rw [eC] at hc8
    rw [eR] at hr8
    clear hlen hLB ok eC eR hz hI hpwe
    generalize (I.two.lay l).frontTo (psOf (I.two.lay l) l) (2 * (c * r)) = F at *
    generalize (I.two.lay l).backTo (psOf (I.two.lay l) l) (2 * (c * r)) = Bk at *
    generalize (I.two.lay l).pw = pw at *
    generalize (I.two.lay l).ph = ph at *
    generalize (I.two.lay l).bw = BW at *
    generalize (I.two.lay l).bh = BH at *
    generalize PairIn (I.two.lay l) = PI at *
    unfold LayI.two LayI.val at *
    obtain ⟨C, R, W, H, hd, fo, sp, mg, cr, sty⟩ := I
    dsimp only at *
    subst ec er ev
    generalize l.length = n at *
    have hmul : (2 : Int) * (c : Int) * (r : Int) = ((2 * (c * r) : Nat) : Int) := by rw [Int.mul_assoc]; simp
    have hb0 := Lib.hid ((Below.refl w.heap.size w).alloc (Nat.le_refl _) (Obj.cells #[.int .i64 (c : Int), .int .i64 (r : Int), .slice Av n cv, .int .i64 W, .int .i64 H, .int .i64 hd, .int .i64 fo, .int .i64 sp, .int .i64 mg, .int .i64 cr, .int .i64 sty] 26))
    have hbl0 := Lib.hid (Blk.new w 26 #[.int .i64 (c : Int), .int .i64 (r : Int), .slice Av n cv, .int .i64 W, .int .i64 H, .int .i64 hd, .int .i64 fo, .int .i64 sp, .int .i64 mg, .int .i64 cr, .int .i64 sty])
    go_enter Try.func4, Try.ntmps4
    go_wp2_with fail
    refine (HF.out _).mono ?_; rintro e w1 ⟨rfl, hb1⟩
    have x := hbl0.out.below hb1 hbl0.out.lt
    have HB1 := Lib.hid (hb0.out.trans (hb1.mono hb0.out.size))
    have HX1 := Lib.hid x
    have u0 := x.cell 0
    have u1 := x.cell 1
    have u2 := x.cell 2
    have u3 := x.cell 3
    have u4 := x.cell 4
    have u5 := x.cell 5
    have u6 := x.cell 6
    have u7 := x.cell 7
    have u8 := x.cell 8
    have u9 := x.cell 9
    have u10 := x.cell 10
    simp only [List.getElem?_toArray, List.getElem?_cons_zero, List.getElem?_cons_succ] at u0 u1 u2 u3 u4 u5 u6 u7 u8 u9 u10
    have uf := x.frozen 10
    have l1 := x.lt
    have xs : Blk (w1.setCell ⟨w.heap.size, 10, none⟩ (.int .i64 0)) w.heap.size 26 #[.int .i64 (c : Int), .int .i64 (r : Int), .slice Av n cv, .int .i64 W, .int .i64 H, .int .i64 hd, .int .i64 fo, .int .i64 sp, .int .i64 mg, .int .i64 cr, .int .i64 0] := by
      have := x.put 10 (.int .i64 0); simpa using this
    have HXs := Lib.hid xs
    have HBs := Lib.hid (HB1.out.setCell (p := ⟨w.heap.size, 10, none⟩) (Nat.le_refl _) (.int .i64 0))
    clear hb1 x xs
    go_wp2_with fail
    rw [show (2 : Int) * ((c : Int) * (r : Int)) = ((2 * (c * r) : Nat) : Int) by simp]
    clear hmul
    generalize c * r = m at *
    refine (hSh.out _ HBs.out).mono ?_; rintro e w2 ⟨vf, vb, rfl, hvf, hvb, hb2⟩
    have HX2 := Lib.hid (HXs.out.below hb2 HXs.out.lt)
    have HB2 := Lib.hid (HBs.out.trans (hb2.mono HBs.out.size))
    have HVf := Lib.hid hvf
    have HVb := Lib.hid hvb
    obtain ⟨Af, cf, ef⟩ := hvf.form
    obtain ⟨Ab, cb, eb⟩ := hvb.form
    subst ef eb
    clear hb2 hvf hvb u0 u1 u2 u3 u4 u5 u6 u7 u8 u9 u10 l1 uf
    have l2 := HX2.out.lt
    go_wp2
    have hb23 := (Below.refl w2.heap.size w2).alloc (Nat.le_refl _) (Obj.cells #[.int .i64 pw, .int .i64 ph, .slice Af F.length cf, .slice Ab Bk.length cb] 30)
    have bS := Blk.new w2 30 #[.int .i64 pw, .int .i64 ph, .slice Af F.length cf, .slice Ab Bk.length cb]
    have x3 := HX2.out.alloc (Obj.cells #[.int .i64 pw, .int .i64 ph, .slice Af F.length cf, .slice Ab Bk.length cb] 30)
    have p1 : PlV (w2.alloc (Obj.cells #[.int .i64 pw, .int .i64 ph, .slice Af F.length cf, .slice Ab Bk.length cb] 30)) (fun _ => True) (.slice Af F.length cf) F := SlM.mono (SlM.later HVf.out hb23) fun _ _ _ => trivial
    have p2 : PlV (w2.alloc (Obj.cells #[.int .i64 pw, .int .i64 ph, .slice Af F.length cf, .slice Ab Bk.length cb] 30)) (fun _ => True) (.slice Ab Bk.length cb) Bk := SlM.mono (SlM.later HVb.out hb23) fun _ _ _ => trivial
    have be3 := HB2.out.trans (hb23.mono HB2.out.size)
    have hs3 : w2.heap.size < (w2.alloc (Obj.cells #[.int .i64 pw, .int .i64 ph, .slice Af F.length cf, .slice Ab Bk.length cb] 30)).heap.size := by simp
    generalize w2.alloc (Obj.cells #[.int .i64 pw, .int .i64 ph, .slice Af F.length cf, .slice Ab Bk.length cb] 30) = w3 at *
    have HbS := Lib.hid bS
    have HX3 := Lib.hid x3
    have HP1 := Lib.hid p1
    have HP2 := Lib.hid p2
    have HBe := Lib.hid be3
    have hFd : Hid (∀ w', Below w3.heap.size w3 w' → ∀ page, Calls Try.prog 12 #[.int .i64 page, .pointer (some ⟨w2.heap.size, 0, none⟩)] w' (FindPost (found F Bk page) w')) := fun w' hb page =>
      find_any w2.heap.size pw ph _ _ F Bk page w' (HbS.out.below hb HbS.out.lt) (SlM.later HP1.out hb) (SlM.later HP2.out hb) (by omega) (by omega)
    have l3 := x3.lt
    clear hb23 bS x3 p1 p2 be3
    generalize F.length = nf at *
    generalize Bk.length = nb at *
    go_loopw [7] (fun vp wr => ∃ k : Nat, k ≤ m ∧ vp = .int .i64 (2 * (k : Int) + 1) ∧ Below w3.heap.size w3 wr) (fun v _ => 2 * m + 4 - (intOf v).toNat)
    case atStart => exact ⟨0, by omega, by simp, Below.refl _ _⟩
    case round =>
      obtain ⟨k, hk, rfl, hb⟩ := hrel
      by_cases hlt : k < m
      · obtain ⟨p, q, bp, bq, hpi⟩ := hPair.out k hlt
        obtain ⟨fp, fq, pp1, qp1, hbb, x0, x1, y0, y1, hpr, hqr⟩ := hPu.out _ _ _ _ _ _ _ hpi
        obtain ⟨v1, v2, v3, v4⟩ := hWd.out p.turn
        obtain ⟨v5, v6, v7, v8⟩ := hWd.out q.turn
        have HFp : Hid (∀ w', Below w3.heap.size w3 w' → Calls Try.prog 12 #[.int .i64 (2 * (k : Int) + 1), .pointer (some ⟨w2.heap.size, 0, none⟩)] w' fun e w'' => e = .returned (.tuple #[.agg #[.int .i64 p.page, .int .i64 p.x, .int .i64 p.y, .int .i64 p.turn], .bool bp]) ∧ Below w'.heap.size w' w'') := fun w' h => by
          have := hFd.out w' h (2 * (k : Int) + 1)
          rw [fp] at this; exact this
        have HFq : Hid (∀ (z : Int) w', z = 2 * (k : Int) + 1 + 1 → Below w3.heap.size w3 w' → Calls Try.prog 12 #[.int .i64 z, .pointer (some ⟨w2.heap.size, 0, none⟩)] w' fun e w'' => e = .returned (.tuple #[.agg #[.int .i64 q.page, .int .i64 q.x, .int .i64 q.y, .int .i64 q.turn], .bool bq]) ∧ Below w'.heap.size w' w'') := fun z w' hz h => by
          have := hFd.out w' h z
          rw [hz, fq] at this; rw [hz]; exact this
        obtain ⟨pp, px, py, pt⟩ := p
        obtain ⟨qp, qx, qy, qt⟩ := q
        dsimp only at pp1 qp1 x0 x1 y0 y1 hpr hqr v1 v2 v3 v4 v5 v6 v7 v8
        obtain ⟨a1, a2, a3, a4, a5, a6⟩ := hpr
        obtain ⟨b1, b2, b3, b4, b5, b6⟩ := hqr
        have HBp := Lib.hid (fun w => hBox.out ⟨pp, px, py, pt⟩ w a1 a2 a3 a4 a5 a6)
        have HBq := Lib.hid (fun w => hBox.out ⟨qp, qx, qy, qt⟩ w b1 b2 b3 b4 b5 b6)
        generalize BW pt = bw at *
        generalize BH pt = bh at *
        generalize BW qt = dw at *
        generalize BH qt = dh at *
        have HB := Lib.hid hb
        have hkd : decide (2 * (k : Int) + 1 < 2 * (m : Int)) = true := by simp; omega
        obtain rfl : py = qy := by omega
        obtain rfl : bh = dh := by omega
        have E1 : pw - (qx + dw) = px := by omega
        have E2 : pw - qx = px + bw := by omega
        have hpw0 : 0 ≤ pw := by omega
        have HE1 := Lib.hid E1
        have HE2 := Lib.hid E2
        have T5 : (pp == 0) = false := by rw [beq_eq_false_iff_ne]; omega
        have T6 : (qp == 0) = false := by rw [beq_eq_false_iff_ne]; omega
        have T7 : (bp == bq) = false := by simpa using hbb
        have HT5 := Lib.hid (And.intro T5 (And.intro T6 T7))
        clear hb fp fq pp1 qp1 hbb x0 x1 y0 y1 hpi E1 E2 T5 T6 T7
        go_wp2_with fail
        refine (HFp.out _ HB.out).mono ?_; rintro e w4 ⟨rfl, hb4⟩
        have h34 := HB.out.trans (hb4.mono HB.out.size)
        have h34p := h34.alloc h34.size (Obj.cells #[.int .i64 pp, .int .i64 px, .int .i64 py, .int .i64 pt] 36)
        have HB4 := Lib.hid h34
        have HB4p := Lib.hid h34p
        clear hkd hb4 h34 h34p
        go_wp2_with fail
        refine (HFq.out _ _ (by omega) HB4p.out).mono ?_; rintro e w5 ⟨rfl, hb5⟩
        have bP := (Blk.new w4 36 #[.int .i64 pp, .int .i64 px, .int .i64 py, .int .i64 pt]).below hb5 (by simp)
        have h35 := HB4p.out.trans (hb5.mono HB4p.out.size)
        have x5 := HX3.out.below h35 HX3.out.lt
        have h35q := h35.alloc h35.size (Obj.cells #[.int .i64 qp, .int .i64 qx, .int .i64 py, .int .i64 qt] 36)
        have HB5q := Lib.hid h35q
        have HbP := Lib.hid bP
        have HX5 := Lib.hid x5
        have lP := bP.lt
        have lx5 := x5.lt
        have g0 := bP.cell 0
        have g1 := bP.cell 1
        have g2 := bP.cell 2
        have g3 := bP.cell 3
        simp only [List.getElem?_toArray, List.getElem?_cons_zero, List.getElem?_cons_succ] at g0 g1 g2 g3
        have u0 := x5.cell 0
        have u1 := x5.cell 1
        have u2 := x5.cell 2
        have u3 := x5.cell 3
        have u4 := x5.cell 4
        have u5 := x5.cell 5
        have u6 := x5.cell 6
        have u7 := x5.cell 7
        have u8 := x5.cell 8
        have u9 := x5.cell 9
        have u10 := x5.cell 10
        simp only [List.getElem?_toArray, List.getElem?_cons_zero, List.getElem?_cons_succ] at u0 u1 u2 u3 u4 u5 u6 u7 u8 u9 u10
        obtain ⟨T5, T6, T7⟩ := HT5.out
        clear hb5 bP h35 x5 h35q
        go_wp2_with fail
        refine (HBp.out _).mono ?_; rintro e w6 ⟨rfl, hb6⟩
        have bQ := (Blk.new w5 36 #[.int .i64 qp, .int .i64 qx, .int .i64 py, .int .i64 qt]).below hb6 (by simp)
        have h36 := HB5q.out.trans (hb6.mono HB5q.out.size)
        have x6 := HX3.out.below h36 HX3.out.lt
        have HB6 := Lib.hid h36
        have lQ := bQ.lt
        have lx6 := x6.lt
        clear g0 g1 g2 g3 u0 u1 u2 u3 u4 u5 u6 u7 u8 u9 u10 T5 T6 T7 hb6
        have g0 := bQ.cell 0
        have g1 := bQ.cell 1
        have g2 := bQ.cell 2
        have g3 := bQ.cell 3
        simp only [List.getElem?_toArray, List.getElem?_cons_zero, List.getElem?_cons_succ] at g0 g1 g2 g3
        have u0 := x6.cell 0
        have u1 := x6.cell 1
        have u2 := x6.cell 2
        have u3 := x6.cell 3
        have u4 := x6.cell 4
        have u5 := x6.cell 5
        have u6 := x6.cell 6
        have u7 := x6.cell 7
        have u8 := x6.cell 8
        have u9 := x6.cell 9
        have u10 := x6.cell 10
        simp only [List.getElem?_toArray, List.getElem?_cons_zero, List.getElem?_cons_succ] at u0 u1 u2 u3 u4 u5 u6 u7 u8 u9 u10
        clear bQ h36 x6
        go_wp2_with fail
        refine (HBq.out _).mono ?_; rintro e w7 ⟨rfl, hb7⟩
        have h37 := HB6.out.trans (hb7.mono HB6.out.size)
        have bS7 := HbS.out.below h37 HbS.out.lt
        have s0 := bS7.cell 0
        simp only [List.getElem?_toArray, List.getElem?_cons_zero] at s0
        have lS7 := bS7.lt
        have HB7 := Lib.hid h37
        have E1 := HE1.out
        have E2 := HE2.out
        clear g0 g1 g2 g3 u0 u1 u2 u3 u4 u5 u6 u7 u8 u9 u10 hb7 h37 bS7
        go_wp2
        go_roundw
        case rel => exact ⟨k + 1, by omega, valInt (by omega), HB7.out⟩
        case measure => simp [intOf]; omega
      · obtain rfl : k = m := by omega
        have HB := Lib.hid hb
        clear hb
        have hkd : decide (2 * (k : Int) + 1 < 2 * (k : Int)) = false := by simp; omega
        go_wp2
        go_ret
        exact ⟨rfl, HBe.out.trans (HB.out.mono HBe.out.size)⟩
  · have hSh : Hid (∀ (k : Int) (w' : World), Below w.heap.size w w' → Calls Try.prog 10 #[I.two.val v, .int .i64 k] w' (SheetErr (impZ I.two l) w')) := fun k w' hb => sheet_bad I.two v l k w' (SlM.later HI.out hb) hz
    have hz1 : (impZ I.two l != 0) = true := by simpa using hz
    generalize impZ I.two l = z at *
    clear hz hI
    unfold LayI.two LayI.val at *
    obtain ⟨C, R, W, H, hd, fo, sp, mg, cr, sty⟩ := I
    dsimp only at *
    subst ev
    generalize l.length = n at *
    have hb0 := Lib.hid ((Below.refl w.heap.size w).alloc (Nat.le_refl _) (Obj.cells #[.int .i64 C, .int .i64 R, .slice Av n cv, .int .i64 W, .int .i64 H, .int .i64 hd, .int .i64 fo, .int .i64 sp, .int .i64 mg, .int .i64 cr, .int .i64 sty] 26))
    have hbl0 := Lib.hid (Blk.new w 26 #[.int .i64 C, .int .i64 R, .slice Av n cv, .int .i64 W, .int .i64 H, .int .i64 hd, .int .i64 fo, .int .i64 sp, .int .i64 mg, .int .i64 cr, .int .i64 sty])
    go_enter Try.func4, Try.ntmps4
    go_wp2_with fail
    refine (HF.out _).mono ?_; rintro e w1 ⟨rfl, hb1⟩
    have x := hbl0.out.below hb1 hbl0.out.lt
    have HB1 := Lib.hid (hb0.out.trans (hb1.mono hb0.out.size))
    have u0 := x.cell 0
    have u1 := x.cell 1
    have u2 := x.cell 2
    have u3 := x.cell 3
    have u4 := x.cell 4
    have u5 := x.cell 5
    have u6 := x.cell 6
    have u7 := x.cell 7
    have u8 := x.cell 8
    have u9 := x.cell 9
    have u10 := x.cell 10
    simp only [List.getElem?_toArray, List.getElem?_cons_zero, List.getElem?_cons_succ] at u0 u1 u2 u3 u4 u5 u6 u7 u8 u9 u10
    have uf := x.frozen 10
    have l1 := x.lt
    have HBs := Lib.hid (HB1.out.setCell (p := ⟨w.heap.size, 10, none⟩) (Nat.le_refl _) (.int .i64 0))
    clear hb1 x
    go_wp2_with fail
    refine (hSh.out _ _ HBs.out).mono ?_; rintro e w2 ⟨rfl, hb2⟩
    have HB2 := Lib.hid (HBs.out.trans (hb2.mono HBs.out.size))
    clear hb2 u0 u1 u2 u3 u4 u5 u6 u7 u8 u9 u10 uf
    go_wp2
    go_ret
    exact ⟨rfl, HB2.out.alloc HB2.out.size _⟩
end Go.Proofs.Ytjcijogdcafloaa
