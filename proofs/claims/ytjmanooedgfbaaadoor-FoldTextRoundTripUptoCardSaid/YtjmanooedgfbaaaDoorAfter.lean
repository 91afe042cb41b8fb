/- The walk of after: the sheet after some folds. -/
import Derived.Test.YtjmanooedgfbaaaDoorChk
namespace Go.Proofs.YtjmanooedgfbaaaDoor
open Go.RowKit
/-- The sheet after the first k folds is returned, in new memory. -/
def AfterPost (x : Sheet) (w : World) (e : Ending) (w' : World) : Prop :=
  ∃ v vals, e = .returned (.tuple #[.agg #[.int .i64 (x.cols : Int), .int .i64 (x.rows : Int), v], .int .i64 0]) ∧ Pl (fun b => w.heap.size ≤ b) w' v vals (pilesOf x) ∧ Below w.heap.size w w'
/-- What after has in memory. -/
structure AM (B : Nat) (w wr : World) (x : Sheet) (vx : Value) (vals : List Value) : Prop where
  b1 : Blk wr (w.heap.size + 1) 67 #[.int .i64 0, .int .i64 0, .slice none 0 0]
  b3 : Blk wr B 67 #[.int .i64 (x.cols : Int), .int .i64 (x.rows : Int), vx]
  pl : Pl (fun b => b ≠ B ∧ w.heap.size + 2 ≤ b) wr vx vals (pilesOf x)
  be : Below w.heap.size w wr
  hB : w.heap.size + 2 ≤ B
theorem AM.later {B : Nat} {w wr w' : World} {x : Sheet} {vx : Value} {vals : List Value} (h : AM B w wr x vx vals) (hb : Below wr.heap.size wr w') : AM B w w' x vx vals :=
  ⟨h.b1.below hb h.b1.lt, h.b3.below hb h.b3.lt, h.pl.later hb, h.be.trans (hb.mono h.be.size), h.hB⟩
theorem AM.put {B : Nat} {w wr w3 : World} {x y : Sheet} {vx v3 : Value} {vals vals3 : List Value} (h : AM B w wr x vx vals) (hb : Below wr.heap.size wr w3) (hp : Pl (fun b => wr.heap.size ≤ b) w3 v3 vals3 (pilesOf y)) :
    AM B w (((w3.setCell ⟨B, 0, none⟩ (.int .i64 (y.cols : Int))).setCell ⟨B, 1, none⟩ (.int .i64 (y.rows : Int))).setCell ⟨B, 2, none⟩ v3) y v3 vals3 := by
  have h1 := h.hB
  have hlt := h.b3.lt
  have h2 := h.later hb
  have hs := h.be.size
  refine ⟨?_, ?_, ?_, ?_, h1⟩
  · exact (((h2.b1.far (by simp; omega) _).far (by simp; omega) _).far (by simp; omega) _)
  · have := ((h2.b3.put 0 (.int .i64 (y.cols : Int))).put 1 (.int .i64 (y.rows : Int))).put 2 v3
    simpa using this
  · have h3 := hp.mono (ok' := fun b => b ≠ B ∧ w.heap.size + 2 ≤ b) fun b _ (h : _ ≤ b) => by omega
    exact (((h3.far (p := ⟨B, 0, none⟩) (fun h => h.1 rfl) (.int .i64 (y.cols : Int))).far (p := ⟨B, 1, none⟩) (fun h => h.1 rfl) (.int .i64 (y.rows : Int))).far (p := ⟨B, 2, none⟩) (fun h => h.1 rfl) v3)
  · exact ((h2.be.setCell (p := ⟨B, 0, none⟩) (by simp; omega) _).setCell (p := ⟨B, 1, none⟩) (by simp; omega) _).setCell (p := ⟨B, 2, none⟩) (by simp; omega) _
set_option maxRecDepth 100000 in
set_option maxHeartbeats 8000000 in
theorem after_ok (C R : Nat) (v : Value) (l : List Step) (k : Nat) (w : World) (hI : Sv w v l) (hC1 : 1 ≤ C) (hC : C ≤ 8) (hR1 : 1 ≤ R) (hR : R ≤ 8) (hCR : R * C ≤ 32) (hn : l.length ≤ 8) (hch : chk C R l = 0) (hok : okSteps (flatS C R) l) (hk : k ≤ l.length) :
    Calls Tryd.prog 27 #[.agg #[.int .i64 (C : Int), .int .i64 (R : Int), v], .int .i64 (k : Int)] w (AfterPost (foldAll (flatS C R) (l.take k)) w) := by
  have HP : Hid (∀ e w', AfterPost (foldAll (flatS C R) (l.take k)) w e w' = ∃ v vals, e = .returned (.tuple #[.agg #[.int .i64 ((foldAll (flatS C R) (l.take k)).cols : Int), .int .i64 ((foldAll (flatS C R) (l.take k)).rows : Int), v], .int .i64 0]) ∧ Pl (fun b => w.heap.size ≤ b) w' v vals (pilesOf (foldAll (flatS C R) (l.take k))) ∧ Below w.heap.size w w') := fun _ _ => rfl
  generalize AfterPost (foldAll (flatS C R) (l.take k)) w = Post at *
  have HI := Lib.hid hI
  have HOk := Lib.hid hok
  have HCR := Lib.hid hCR
  obtain ⟨Av, cv, ev⟩ := SlM.form HI.out
  have hcapn := (SlM.caps (ev ▸ HI.out)).2.1
  have HChk : Hid (∀ w', Below w.heap.size w w' → Calls Tryd.prog 10 #[.agg #[.int .i64 (C : Int), .int .i64 (R : Int), v]] w' fun e w'' => e = .returned (.int .i64 0) ∧ Below w'.heap.size w' w'') := fun w' hb => by
    have := check_any (C : Int) (R : Int) v l w' (SlM.later HI.out hb)
    rw [hch] at this; exact this
  generalize hlen : l.length = n at *
  have HN := Lib.hid hlen
  have hfl := Lib.hid (fun w => flat_any C R Av n cv w hC hR)
  subst ev
  clear hlen hI hok hCR hch
  have hb0 := Lib.hid (((Below.refl w.heap.size w).alloc (Nat.le_refl _) (Obj.cells #[.int .i64 (C : Int), .int .i64 (R : Int), .slice Av n cv] 24)).alloc (by simp) (Obj.cells #[.int .i64 0, .int .i64 0, .slice none 0 0] 67))
  have hbl0 := Lib.hid ((Blk.new w 24 #[.int .i64 (C : Int), .int .i64 (R : Int), .slice Av n cv]).alloc (Obj.cells #[.int .i64 0, .int .i64 0, .slice none 0 0] 67))
  have hbl1 := Lib.hid (Blk.new (w.alloc (Obj.cells #[.int .i64 (C : Int), .int .i64 (R : Int), .slice Av n cv] 24)) 67 #[.int .i64 0, .int .i64 0, .slice none 0 0])
  go_enter Tryd.func27, Tryd.ntmps27
  go_wp2_with fail
  refine (HChk.out _ hb0.out).mono ?_; rintro e w1 ⟨rfl, hb1⟩
  have x0 := hbl0.out.below hb1 hbl0.out.lt
  have x1 := hbl1.out.below hb1 hbl1.out.lt
  simp only [World.size_alloc] at x1
  have be1 := hb0.out.trans (hb1.mono hb0.out.size)
  have c0 : w1.cell? ⟨w.heap.size, 0, none⟩ = some (.int .i64 (C : Int)) := x0.cell 0
  have c1 : w1.cell? ⟨w.heap.size, 1, none⟩ = some (.int .i64 (R : Int)) := x0.cell 1
  have c2 : w1.cell? ⟨w.heap.size, 2, none⟩ = some (.slice Av n cv) := x0.cell 2
  have HX0 := Lib.hid x0
  have HX1 := Lib.hid x1
  have HBe := Lib.hid be1
  clear x0 x1 be1 hb1 hbl0 hbl1 hb0
  have HFl : Hid (Calls Tryd.prog 20 #[.agg #[.int .i64 (C : Int), .int .i64 (R : Int), .slice Av n cv]] w1 fun e w2 => ∃ (A : Option Addr) (c : Nat) (vals : List Value), e = .returned (.agg #[.int .i64 ((flatS C R).cols : Int), .int .i64 ((flatS C R).rows : Int), .slice A vals.length c]) ∧ Pl (fun b => b ≠ w2.heap.size ∧ w.heap.size + 2 ≤ b) w2 (.slice A vals.length c) vals (pilesOf (flatS C R)) ∧ Below w1.heap.size w1 w2 ∧ w2.cell? ⟨w.heap.size, 2, none⟩ = some (.slice Av n cv) ∧ w.heap.size < w2.heap.size) :=
    (hfl.out w1).mono fun e w2 ⟨vx, vals, he, hpl, hb⟩ => by
      obtain ⟨A, c, ex⟩ := hpl.out.form
      have h1 := HX0.out.below hb HX0.out.lt
      have h2 := HX1.out.lt
      exact ⟨A, c, vals, by rw [he, ex], by rw [← ex]; exact hpl.mono fun b hb (h : _ ≤ b) => by omega, hb, h1.cell 2, h1.lt⟩
  have HSmall : Hid (∀ j, Small (foldAll (flatS C R) (l.take j)) 8 8) := fun j => small_all (okSteps_take HOk.out j) ⟨hC1, hC, hR1, hR⟩
  have HRoom : Hid (∀ j c r, (pileAt (foldAll (flatS C R) (l.take j)) c r).length ≤ 1000) := fun j => okSteps_room HCR.out (okSteps_take HOk.out j)
  generalize flatS C R = S0 at *
  go_wp2_with (go_at_call 20; refine HFl.out.mono ?_; rintro e w2 ⟨Ax, cx, vals, rfl, hpl, hb2, d2, hz2⟩; have HPl := Lib.hid hpl; have HB2 := Lib.hid hb2; clear hpl hb2)
  clear d2 c0 c1 c2 hz2
  go_loopw [33] (fun vj wr => ∃ (j : Nat) (vx : Value) (vals : List Value), j ≤ k ∧ vj = .int .i64 j ∧ AM w2.heap.size w wr (foldAll S0 (l.take j)) vx vals) (fun j _ => k - (intOf j).toNat)
  case atStart =>
    have h2 := HX1.out.lt
    have hb3 : Below w2.heap.size w2 (w2.alloc (Obj.cells #[.int .i64 (S0.cols : Int), .int .i64 (S0.rows : Int), .slice Ax vals.length cx] 67)) := (Below.refl _ _).alloc (Nat.le_refl _) _
    have hs2 := HB2.out.size
    refine ⟨0, .slice Ax vals.length cx, vals, by omega, rfl, ?_, ?_, ?_, ?_, by omega⟩
    · exact (HX1.out.below HB2.out HX1.out.lt).alloc _
    · exact Blk.new w2 _ _
    · exact HPl.out.later hb3
    · exact (HBe.out.trans (HB2.out.mono HBe.out.size)).trans (hb3.mono (by omega))
  case round =>
    obtain ⟨j, vx, vals2, hj, rfl, hm⟩ := hrel
    by_cases hlt : j < k
    · obtain ⟨bS, oS, cS, eS, hbS, hcapS, _, hcS⟩ := (HI.out).cells3 (by rw [HN.out]; omega)
      obtain ⟨g0, g1, g2⟩ := hcS j (by rw [HN.out]; omega)
      rw [HN.out] at eS hcapS
      injection eS with eA _ eC
      subst eA; subst eC
      have d0 := (hm.be.cell (p := ⟨bS, oS + j * 3, none⟩) hbS).trans g0
      have d1 := (hm.be.cell (p := ⟨bS, oS + j * 3 + 1, none⟩) hbS).trans g1
      have d2 := (hm.be.cell (p := ⟨bS, oS + j * 3 + 2, none⟩) hbS).trans g2
      have HT := Lib.hid (take_step l (j := j) (by rw [HN.out]; omega))
      have hok1 := okSteps_take HOk.out (j + 1)
      rw [HT.out, okSteps_snoc] at hok1
      have HSm := Lib.hid (HSmall.out j)
      have HRm := Lib.hid (HRoom.out j)
      have HNx : Hid (foldAll S0 (l.take (j + 1)) = foldS (foldAll S0 (l.take j)) (st l j)) := by unfold Hid; rw [HT.out, foldAll_snoc]
      obtain ⟨Ax2, cx2, ex2⟩ := hm.pl.out.form
      subst ex2
      generalize hx : foldAll S0 (l.take j) = x at *
      generalize hff : st l j = f at *
      have HOf := Lib.hid hok1.2
      clear g0 g1 g2 hcS hx hff hok1
      obtain ⟨side, line, over⟩ := f
      dsimp only at d0 d1 d2
      have HM := Lib.hid hm
      have r0 : wr.cell? ⟨w2.heap.size, 0, none⟩ = some (.int .i64 (x.cols : Int)) := hm.b3.cell 0
      have r1 : wr.cell? ⟨w2.heap.size, 1, none⟩ = some (.int .i64 (x.rows : Int)) := hm.b3.cell 1
      have r2 : wr.cell? ⟨w2.heap.size, 2, none⟩ = some (.slice Ax2 vals2.length cx2) := hm.b3.cell 2
      have hz := hm.b3.lt
      have hwa : Below wr.heap.size wr (wr.alloc (Obj.cells #[.int .i64 side, .int .i64 line, .bool over] 33)) := (Below.refl _ _).alloc (Nat.le_refl _) _
      have HMa := Lib.hid (hm.later hwa)
      have HFold : Hid (Calls Tryd.prog 22 #[.agg #[.int .i64 (x.cols : Int), .int .i64 (x.rows : Int), .slice Ax2 vals2.length cx2], .agg #[.int .i64 side, .int .i64 line, .bool over]] (wr.alloc (Obj.cells #[.int .i64 side, .int .i64 line, .bool over] 33)) (SheetPost (foldS x ⟨side, line, over⟩) (wr.alloc (Obj.cells #[.int .i64 side, .int .i64 line, .bool over] 33)))) :=
        fold_any x ⟨side, line, over⟩ _ vals2 _ HMa.out.pl HSm.out HOf.out HRm.out
      clear hm hwa
      generalize foldS x ⟨side, line, over⟩ = y at *
      go_wp2_with (go_at_call 22; refine HFold.out.mono ?_; rintro e w3 ⟨v3, vals3, rfl, hpl3, hb3⟩; obtain ⟨A3, c3, e3⟩ := hpl3.out.form; subst e3; have b3 := HMa.out.b3.below hb3 HMa.out.b3.lt; have r0 : w3.cell? ⟨w2.heap.size, 0, none⟩ = some (.int .i64 (x.cols : Int)) := b3.cell 0; have r1 : w3.cell? ⟨w2.heap.size, 1, none⟩ = some (.int .i64 (x.rows : Int)) := b3.cell 1; have r2 : w3.cell? ⟨w2.heap.size, 2, none⟩ = some (.slice Ax2 vals2.length cx2) := b3.cell 2; have f0 := b3.frozen 0; have f1 := b3.frozen 1; have f2 := b3.frozen 2; have hz3 := b3.lt; have HPl3 := Lib.hid hpl3; have HB3 := Lib.hid hb3; clear hpl3 hb3 b3)
      go_roundw
      case rel => exact ⟨j + 1, .slice A3 vals3.length c3, vals3, by omega, by go_num, by rw [HNx.out]; exact HMa.out.put HB3.out HPl3.out⟩
      case measure => simp [intOf]; omega
    · obtain rfl : j = k := by omega
      generalize foldAll S0 (l.take j) = x at *
      obtain ⟨A1, c1, hv⟩ := hm.pl.out.form
      subst hv
      have x0 : wr.cell? ⟨w2.heap.size, 0, none⟩ = some (.int .i64 (x.cols : Int)) := hm.b3.cell 0
      have x1 : wr.cell? ⟨w2.heap.size, 1, none⟩ = some (.int .i64 (x.rows : Int)) := hm.b3.cell 1
      have x2 : wr.cell? ⟨w2.heap.size, 2, none⟩ = some (.slice A1 _ c1) := hm.b3.cell 2
      have y0 : wr.cell? ⟨w.heap.size + 1, 0, none⟩ = some (.int .i64 0) := hm.b1.cell 0
      have y1 : wr.cell? ⟨w.heap.size + 1, 1, none⟩ = some (.int .i64 0) := hm.b1.cell 1
      have y2 : wr.cell? ⟨w.heap.size + 1, 2, none⟩ = some (.slice none 0 0) := hm.b1.cell 2
      have f0 := hm.b1.frozen 0
      have f1 := hm.b1.frozen 1
      have f2 := hm.b1.frozen 2
      have hlt2 := hm.b1.lt
      have HM := Lib.hid hm
      clear hm
      go_wp2
      refine bodyPost_ret (v := .tuple #[.agg #[.int .i64 (x.cols : Int), .int .i64 (x.rows : Int), .slice A1 vals2.length c1], .int .i64 0]) (by simp [results, Tryd.results27, go_sem, y0, y1, y2]) rfl ?_
      rw [HP.out]
      refine ⟨_, vals2, rfl, ?_, ?_⟩
      · have h3 := HM.out.pl.mono (ok' := fun b => w.heap.size + 2 ≤ b) fun b _ h => h.2
        exact (((h3.far (p := ⟨w.heap.size + 1, 0, none⟩) (fun h => by simp at h) (.int .i64 (x.cols : Int))).far (p := ⟨w.heap.size + 1, 1, none⟩) (fun h => by simp at h) (.int .i64 (x.rows : Int))).far (p := ⟨w.heap.size + 1, 2, none⟩) (fun h => by simp at h) (.slice A1 vals2.length c1)).mono fun b _ (h : _ ≤ b) => by omega
      · exact ((HM.out.be.setCell (p := ⟨w.heap.size + 1, 0, none⟩) (by simp) (.int .i64 (x.cols : Int))).setCell (p := ⟨w.heap.size + 1, 1, none⟩) (by simp) (.int .i64 (x.rows : Int))).setCell (p := ⟨w.heap.size + 1, 2, none⟩) (by simp) (.slice A1 vals2.length c1)
/-- No sheet: the error is returned. -/
def AfterErr (z : Int) (w : World) (e : Ending) (w' : World) : Prop := e = .returned (.tuple #[.agg #[.int .i64 0, .int .i64 0, .slice none 0 0], .int .i64 z]) ∧ Below w.heap.size w w'
set_option maxRecDepth 100000 in
set_option maxHeartbeats 4000000 in
theorem after_bad (C R k : Int) (v : Value) (l : List Step) (w : World) (hI : Sv w v l) (hch : chk C R l ≠ 0) :
    Calls Tryd.prog 27 #[.agg #[.int .i64 C, .int .i64 R, v], .int .i64 k] w (AfterErr (chk C R l) w) := by
  have HI := Lib.hid hI
  obtain ⟨Av, cv, ev⟩ := SlM.form HI.out
  have HChk : Hid (∀ w', Below w.heap.size w w' → Calls Tryd.prog 10 #[.agg #[.int .i64 C, .int .i64 R, v]] w' fun e w'' => e = .returned (.int .i64 (chk C R l)) ∧ Below w'.heap.size w' w'') := fun w' hb =>
    check_any C R v l w' (SlM.later HI.out hb)
  have HE : Hid (∀ e w', AfterErr (chk C R l) w e w' = (e = .returned (.tuple #[.agg #[.int .i64 0, .int .i64 0, .slice none 0 0], .int .i64 (chk C R l)]) ∧ Below w.heap.size w w')) := fun _ _ => rfl
  generalize AfterErr (chk C R l) w = Post at *
  generalize chk C R l = z at *
  generalize l.length = n at *
  subst ev
  have hz : (z != 0) = true := by simpa using hch
  clear hI hch
  have hb0 := Lib.hid (((Below.refl w.heap.size w).alloc (Nat.le_refl _) (Obj.cells #[.int .i64 C, .int .i64 R, .slice Av n cv] 24)).alloc (by simp) (Obj.cells #[.int .i64 0, .int .i64 0, .slice none 0 0] 67))
  have hbl1 := Lib.hid (Blk.new (w.alloc (Obj.cells #[.int .i64 C, .int .i64 R, .slice Av n cv] 24)) 67 #[.int .i64 0, .int .i64 0, .slice none 0 0])
  go_enter Tryd.func27, Tryd.ntmps27
  go_wp2_with fail
  refine (HChk.out _ hb0.out).mono ?_; rintro e w1 ⟨rfl, hb1⟩
  have x1 := hbl1.out.below hb1 hbl1.out.lt
  simp only [World.size_alloc] at x1
  have be1 := hb0.out.trans (hb1.mono hb0.out.size)
  have y0 : w1.cell? ⟨w.heap.size + 1, 0, none⟩ = some (.int .i64 0) := x1.cell 0
  have y1 : w1.cell? ⟨w.heap.size + 1, 1, none⟩ = some (.int .i64 0) := x1.cell 1
  have y2 : w1.cell? ⟨w.heap.size + 1, 2, none⟩ = some (.slice none 0 0) := x1.cell 2
  have f0 := x1.frozen 0
  have f1 := x1.frozen 1
  have f2 := x1.frozen 2
  have hlt := x1.lt
  have HBe := Lib.hid be1
  clear x1 be1 hb1 hbl1 hb0
  go_wp2
  refine bodyPost_ret (v := .tuple #[.agg #[.int .i64 0, .int .i64 0, .slice none 0 0], .int .i64 z]) (by simp [results, Tryd.results27, go_sem, y0, y1, y2]) rfl ?_
  rw [HE.out]
  exact ⟨rfl, ((HBe.out.setCell (p := ⟨w.heap.size + 1, 0, none⟩) (by simp) _).setCell (p := ⟨w.heap.size + 1, 1, none⟩) (by simp) _).setCell (p := ⟨w.heap.size + 1, 2, none⟩) (by simp) _⟩
end Go.Proofs.YtjmanooedgfbaaaDoor
