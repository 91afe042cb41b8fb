/- The walk of ImposeMarksOutsidePages. -/
import Derived.Test.YtjcijogdcafloaaEqualMk
import Derived.Test.YtjcijogdcafloaaTiny
import Derived.Test.YtjcijogdcafloaaDisj
namespace Go.Proofs.Ytjcijogdcafloaa
open Go.RowKit
def onceM : LayI := ⟨2, 1, 10, 10, 0, 0, 0, 2, 0, 0⟩
theorem impZ_onceM : impZ onceM onceL = 0 := by decide
theorem marks_onceM : (onceM.lay onceL).marksL = [⟨12, 0, 1, 1⟩, ⟨12, 13, 1, 1⟩] := by decide
/-- Marks of a layout that Check takes. -/
theorem marks_any {I : LayI} {v : Value} {l : List Step} (hz : impZ I l = 0) (w : World) (hI : Sv w v l) :
    Calls Try.prog 13 #[I.val v] w (MarksOk (I.lay l).marksL w) := by
  obtain ⟨c, r, ec, er, hLB, ok, hpw, hph⟩ := impZ_zero v hz
  rw [layV_eq ec er]
  refine marks_ok hLB ok hpw hph w hI fun w' hb => ?_
  rw [← layV_eq ec er]
  have := impcheck_any I v l w' (SlM.later hI hb)
  rw [hz] at this; exact this
/-- A plate with marks and without pages. -/
theorem plate_nil {I : LayI} {v : Value} {l : List Step} (hz : impZ I l = 0) (w : World) (hI : Sv w v l) :
    Calls Try.prog 17 #[I.val v, .slice none 0 0, .bool false, .bool true] w (PlateOk (I.lay l).pw (I.lay l).ph (imgM (I.lay l).pw.toNat (I.lay l).ph.toNat (I.lay l).marksL) w) := by
  obtain ⟨c, r, ec, er, hLB, ok, hpw, hph⟩ := impZ_zero v hz
  rw [layV_eq ec er]
  have hpg : PgV w (fun _ => True) (.slice none 0 0) (I.lay l).W (I.lay l).H [] [] := ⟨SlM.nil _ _, rfl, fun i hi => absurd hi (by simp), fun i hi => absurd hi (by simp)⟩
  have := plate_ok hLB ok hpw hph w hI (fun w' hb => by
    rw [← layV_eq ec er]
    have := impcheck_any I v l w' (SlM.later hI hb)
    rw [hz] at this; exact this) _ _ [] [] hpg (Nat.zero_le _) false ((I.lay l).frontTo (psOf (I.lay l) l) 0) rfl
  exact this
/-- A slice of marks that was just made. -/
theorem mkv_new (w : World) (l : List Mk) (hm : l.length ≤ maxLen := by simp [maxLen]) : MkV (w.alloc (.cells (mkcells l).toArray 48)) (fun _ => True) (.slice (some ⟨w.heap.size, 0, none⟩) l.length l.length) l := by
  refine ⟨_, l.length, rfl, Nat.le_refl _, hm, fun _ => ⟨w.heap.size, 0, rfl, trivial, by simp, fun k u hu => ?_⟩⟩
  have := news_new w 48 (mkcells l) w.heap.size rfl k u hu
  rw [add_plain] at this
  exact this
theorem grown_set {w a : World} {g : Nat} (h : w.grownBy a (some g)) (k : Nat) (u : Value) : w.grownBy (a.setCell ⟨g, k, none⟩ u) (some g) :=
  ⟨h.os, h.tape, h.output, by simpa [World.setCell] using h.size, fun i hi hne => (Below.heap_setCell a ⟨g, k, none⟩ u i (fun e => hne (by rw [show i = g from e]))).trans (h.block i hi hne)⟩
theorem grown_of_below {w a : World} (h : Below w.heap.size w a) (r : Option Nat) : w.grownBy a r := ⟨h.os, h.tape, h.output, h.size, fun k hk _ => h.block k hk⟩
/-- What the law asks, in plain words, of a mark. -/
structure MkRd (pw ph : Nat) (L : Lay) (F : List Pla) (m : Mk) : Prop where
  x0 : 0 ≤ m.x
  y0 : 0 ≤ m.y
  x1 : m.x + m.w ≤ pw
  y1 : m.y + m.h ≤ ph
  w1 : 1 ≤ m.w
  h1 : 1 ≤ m.h
  w2 : m.w ≤ 32
  h2 : m.h ≤ 32
  out : ∀ i, i < F.length → ¬ ((plN F i).x < m.x + m.w ∧ m.x < (plN F i).x + L.bw (plN F i).turn ∧ (plN F i).y < m.y + m.h ∧ m.y < (plN F i).y + L.bh (plN F i).turn)
set_option maxRecDepth 100000 in
set_option maxHeartbeats 8000000 in
theorem markout_any (I : LayI) (v : Value) (l : List Step) (w : World) (hI : Sv w v l) :
    Calls Try.prog 5 #[I.val v] w fun e w' => e = .returned (.bool true) ∧ Below w.heap.size w w' := by
  have HI := Lib.hid hI
  have HO := Lib.hid once_any
  have HMo : Hid (∀ (v : Value) (w : World), Sv w v onceL → Calls Try.prog 13 #[.agg #[.int .i64 2, .int .i64 1, v, .int .i64 10, .int .i64 10, .int .i64 0, .int .i64 0, .int .i64 0, .int .i64 2, .int .i64 0, .int .i64 0]] w (MarksOk [⟨12, 0, 1, 1⟩, ⟨12, 13, 1, 1⟩] w)) := fun v w hv => by
    have := marks_any (I := onceM) impZ_onceM w hv
    rw [marks_onceM] at this; exact this
  obtain ⟨Av, cv, ev⟩ := SlM.form hI
  subst ev
  have HTi : Hid (∀ w, Calls Try.prog 16 #[I.val (.slice Av l.length cv)] w fun e w' => e = .returned (I.small.val (.slice Av l.length cv)) ∧ Below w.heap.size w w') := fun w => tiny_any I Av l.length cv w
  by_cases hz : impZ I.small l = 0
  · obtain ⟨c, r, ec, er, hLB, ok, hpw, hph⟩ := impZ_zero (.slice Av l.length cv) hz
    have hlen := psOf_length hLB
    have eC : (I.small.lay l).C = c := by unfold LayI.lay; dsimp only; omega
    have eR : (I.small.lay l).R = r := by unfold LayI.lay; dsimp only; omega
    have c1 := ok.c1
    have r1 := ok.r1
    have c8 := hLB.good.c8
    have r8 := hLB.good.r8
    have hlw1 : 1 ≤ (I.small.lay l).lw ∧ 1 ≤ (I.small.lay l).lh := by
      have := ok.w1; have := ok.h1; have := ok.head0; have := ok.fore0; have := ok.spine0
      unfold Lay.lw Lay.lh Lay.fw Lay.fh; split <;> omega
    have hP0 : 1 ≤ (I.small.lay l).pw ∧ 1 ≤ (I.small.lay l).ph := by
      have a := Int.mul_le_mul_of_nonneg_right (show (1 : Int) ≤ (I.small.lay l).C by omega) (show 0 ≤ (I.small.lay l).lw by omega)
      have b := Int.mul_le_mul_of_nonneg_right (show (1 : Int) ≤ (I.small.lay l).R by omega) (show 0 ≤ (I.small.lay l).lh by omega)
      have := ok.margin0
      unfold Lay.pw Lay.ph Lay.sw Lay.sh; constructor <;> split <;> omega
    obtain ⟨PW, hPW⟩ := Int.eq_ofNat_of_zero_le (show 0 ≤ (I.small.lay l).pw by omega)
    obtain ⟨PH, hPH⟩ := Int.eq_ofNat_of_zero_le (show 0 ≤ (I.small.lay l).ph by omega)
    have ePW : (I.small.lay l).pw.toNat = PW := by rw [hPW]; exact Int.toNat_natCast _
    have ePH : (I.small.lay l).ph.toNat = PH := by rw [hPH]; exact Int.toNat_natCast _
    have hP1 : 1 ≤ PW ∧ PW ≤ 1024 ∧ 1 ≤ PH ∧ PH ≤ 1024 := by omega
    have HMg : Hid (∀ w', Below w.heap.size w w' → Calls Try.prog 13 #[I.small.val (.slice Av l.length cv)] w' (MarksOk (I.small.lay l).marksL w')) := fun w' hb => marks_any hz w' (SlM.later HI.out hb)
    have HSg : Hid (∀ w', Below w.heap.size w w' → Calls Try.prog 10 #[I.small.val (.slice Av l.length cv), .int .i64 ((2 * (c * r) : Nat) : Int)] w' (SheetOk PW PH ((I.small.lay l).frontTo (psOf (I.small.lay l) l) (2 * (c * r))) ((I.small.lay l).backTo (psOf (I.small.lay l) l) (2 * (c * r))) w')) := fun w' hb => by
      have := sheet_any hz (psOf (I.small.lay l) l).length (Nat.le_refl _) w' (SlM.later HI.out hb)
      rw [hlen, eC, eR, hPW, hPH] at this; exact this
    have HPg : Hid (∀ w', Below w.heap.size w w' → Calls Try.prog 17 #[I.small.val (.slice Av l.length cv), .slice none 0 0, .bool false, .bool true] w' (PlateOk PW PH (imgM PW PH (I.small.lay l).marksL) w')) := fun w' hb => by
      have := plate_nil hz w' (SlM.later HI.out hb)
      rw [ePW, ePH, hPW, hPH] at this; exact this
    have hps := psOf_pages hLB
    have HBox : Hid (∀ (p : Pla) (w : World), 0 ≤ p.x → p.x ≤ 100000 → 0 ≤ p.y → p.y ≤ 100000 → 0 ≤ p.turn → p.turn < 4 → Calls Try.prog 11 #[I.small.val (.slice Av l.length cv), .agg #[.int .i64 p.page, .int .i64 p.x, .int .i64 p.y, .int .i64 p.turn]] w fun e w' => e = .returned (.tuple #[.int .i64 p.x, .int .i64 p.y, .int .i64 (p.x + (I.small.lay l).bw p.turn), .int .i64 (p.y + (I.small.lay l).bh p.turn)]) ∧ Below w.heap.size w w') := fun p w' a b c d e f => by
      rw [layV_eq ec er]
      exact box_any (I.small.lay l) Av l.length cv p w' hLB.w1 hLB.w2 hLB.h1 hLB.h2 a b c d e f
    have HWd : Hid (∀ t, 1 ≤ (I.small.lay l).bw t ∧ (I.small.lay l).bw t ≤ 256 ∧ 1 ≤ (I.small.lay l).bh t ∧ (I.small.lay l).bh t ≤ 256) := fun t => by
      have := hLB.w1; have := hLB.w2; have := hLB.h1; have := hLB.h2
      unfold Lay.bw Lay.bh; split <;> omega
    have hFk : 2 * (c * r) ≤ (psOf (I.small.lay l) l).length := by rw [hlen, eC, eR]; exact Nat.le_refl _
    have HFr : Hid (∀ i, i < ((I.small.lay l).frontTo (psOf (I.small.lay l) l) (2 * (c * r))).length → 0 ≤ (plN ((I.small.lay l).frontTo (psOf (I.small.lay l) l) (2 * (c * r))) i).x ∧ (plN ((I.small.lay l).frontTo (psOf (I.small.lay l) l) (2 * (c * r))) i).x ≤ 100000 ∧ 0 ≤ (plN ((I.small.lay l).frontTo (psOf (I.small.lay l) l) (2 * (c * r))) i).y ∧ (plN ((I.small.lay l).frontTo (psOf (I.small.lay l) l) (2 * (c * r))) i).y ≤ 100000 ∧ 0 ≤ (plN ((I.small.lay l).frontTo (psOf (I.small.lay l) l) (2 * (c * r))) i).turn ∧ (plN ((I.small.lay l).frontTo (psOf (I.small.lay l) l) (2 * (c * r))) i).turn < 4) := fun i hi => by
      have h := (rd_ok hLB.w1 hLB.h1 hpw hph (front_ok ok hps hFk) (turns_ok hps (I.small.lay l).inF _ hFk)).inn i hi
      exact ⟨h.1, h.2.2.2.2.1, h.2.1, h.2.2.2.2.2.1, h.2.2.2.2.2.2.1, h.2.2.2.2.2.2.2⟩
    have HRd : Hid (∀ i, i < (I.small.lay l).marksL.length → MkRd PW PH (I.small.lay l) ((I.small.lay l).frontTo (psOf (I.small.lay l) l) (2 * (c * r))) (mkN (I.small.lay l).marksL i)) := fun i hi => by
      have h := Lay.marks_in ok.margin0 hLB.mg1 hlw1.1 hlw1.2 ok.c1 ok.r1 (mkN_mem _ hi)
      exact ⟨h.x0, h.y0, by rw [← hPW]; exact h.x1, by rw [← hPH]; exact h.y1, h.w1, h.h1, h.w2, h.h2, fun j hj => marks_front ok hps hFk h (List.mem_of_getElem? (plN_get _ hj))⟩
    have HRu : Hid (∀ F m, MkRd PW PH (I.small.lay l) F m → 0 ≤ m.x ∧ 0 ≤ m.y ∧ m.x + m.w ≤ PW ∧ m.y + m.h ≤ PH ∧ 1 ≤ m.w ∧ 1 ≤ m.h ∧ m.w ≤ 32 ∧ m.h ≤ 32 ∧ ∀ i, i < F.length → ¬ ((plN F i).x < m.x + m.w ∧ m.x < (plN F i).x + (I.small.lay l).bw (plN F i).turn ∧ (plN F i).y < m.y + m.h ∧ m.y < (plN F i).y + (I.small.lay l).bh (plN F i).turn)) := fun F m h => ⟨h.x0, h.y0, h.x1, h.y1, h.w1, h.h1, h.w2, h.h2, h.out⟩
    rw [eC] at c8 c1
    rw [eR] at r8 r1
    clear hlen hLB ok eC eR hz hI hpw hph hlw1 hP0 hPW hPH ePW ePH hps hFk
    generalize (I.small.lay l).frontTo (psOf (I.small.lay l) l) (2 * (c * r)) = F at *
    generalize (I.small.lay l).backTo (psOf (I.small.lay l) l) (2 * (c * r)) = Bk at *
    generalize (I.small.lay l).marksL = ms at *
    generalize (I.small.lay l).bw = BW at *
    generalize (I.small.lay l).bh = BH at *
    generalize MkRd PW PH (I.small.lay l) = RD at *
    unfold LayI.small LayI.val at *
    obtain ⟨C, R, W, H, hd, fo, sp, mg, cr, sty⟩ := I
    dsimp only at *
    generalize wi W 1 6 = W' at *
    generalize wi H 1 6 = H' at *
    generalize wi hd 0 2 = hd' at *
    generalize wi fo 0 2 = fo' at *
    generalize wi sp 0 12 = sp' at *
    generalize wi mg 0 4 = mg' at *
    generalize l.length = n at *
    subst ec er
    have hmul : (2 : Int) * (c : Int) * (r : Int) = ((2 * (c * r) : Nat) : Int) := by rw [Int.mul_assoc]; simp
    have hcr9 : c * r ≤ 64 := Nat.mul_le_mul c8 r8
    generalize c * r = m at *
    obtain ⟨mm, hmm⟩ : ∃ mm, 2 * m = mm := ⟨_, rfl⟩
    have hmm9 : mm ≤ 128 := by omega
    rw [hmm] at hmul HSg
    clear hmm
    have hb0 := Lib.hid ((Below.refl w.heap.size w).alloc (Nat.le_refl _) (Obj.cells #[.int .i64 (c : Int), .int .i64 (r : Int), .slice Av n cv, .int .i64 W, .int .i64 H, .int .i64 hd, .int .i64 fo, .int .i64 sp, .int .i64 mg, .int .i64 cr, .int .i64 sty] 26))
    have hbl0 := Lib.hid (Blk.new w 26 #[.int .i64 (c : Int), .int .i64 (r : Int), .slice Av n cv, .int .i64 W, .int .i64 H, .int .i64 hd, .int .i64 fo, .int .i64 sp, .int .i64 mg, .int .i64 cr, .int .i64 sty])
    go_enter Try.func5, Try.ntmps5
    go_wp2_with fail
    refine (HO.out _).mono ?_; rintro e w1 ⟨vo, rfl, hso, hb1⟩
    obtain ⟨Ao, co, eo⟩ := SlM.form hso
    subst eo
    have HSo := Lib.hid hso
    have HB1 := Lib.hid (hb0.out.trans (hb1.mono hb0.out.size))
    have HX1 := Lib.hid (hbl0.out.below hb1 hbl0.out.lt)
    clear hso hb1
    generalize onceL.length = no at *
    go_wp2_with fail
    refine (HMo.out _ _ HSo.out).mono ?_; rintro e w2 ⟨vm, rfl, hmk, hb2⟩
    obtain ⟨Am, cm, em⟩ := hmk.form
    subst em
    have HMk := Lib.hid hmk
    have HB2 := Lib.hid (HB1.out.trans (hb2.mono HB1.out.size))
    have HX2 := Lib.hid (HX1.out.below hb2 HX1.out.lt)
    clear hmk hb2
    go_wp2_with fail
    have hal := (Below.refl w2.heap.size w2).alloc (Nat.le_refl _) (Obj.cells #[.int .i64 12, .int .i64 0, .int .i64 1, .int .i64 1, .int .i64 12, .int .i64 13, .int .i64 1, .int .i64 1] 48)
    refine (equal_mk _ _ [⟨12, 0, 1, 1⟩, ⟨12, 13, 1, 1⟩] _ _ _ (SlM.later HMk.out hal) (mkv_new w2 [⟨12, 0, 1, 1⟩, ⟨12, 13, 1, 1⟩]) (by simp)).mono ?_; rintro e w3 ⟨rfl, hb3⟩
    have hb23 := hal.trans (hb3.mono hal.size)
    have HB3 := Lib.hid (HB2.out.trans (hb23.mono HB2.out.size))
    have HX3 := Lib.hid (HX2.out.below hb23 HX2.out.lt)
    clear hal hb3 hb23
    have xa0 := HX3.out.cell 0
    have xa1 := HX3.out.cell 1
    have xa2 := HX3.out.cell 2
    have xa3 := HX3.out.cell 3
    have xa4 := HX3.out.cell 4
    have xa5 := HX3.out.cell 5
    have xa6 := HX3.out.cell 6
    have xa7 := HX3.out.cell 7
    have xa8 := HX3.out.cell 8
    have xa9 := HX3.out.cell 9
    have xa10 := HX3.out.cell 10
    simp only [List.getElem?_toArray, List.getElem?_cons_zero, List.getElem?_cons_succ] at xa0 xa1 xa2 xa3 xa4 xa5 xa6 xa7 xa8 xa9 xa10
    go_wp2_with fail
    refine (HTi.out _).mono ?_; rintro e w4 ⟨rfl, hb4⟩
    have HB4 := Lib.hid (HB3.out.trans (hb4.mono HB3.out.size))
    have HX4 := Lib.hid (HX3.out.below hb4 HX3.out.lt)
    clear hb4 xa0 xa1 xa2 xa3 xa4 xa5 xa6 xa7 xa8 xa9 xa10
    have xa0 := HX4.out.cell 0
    have xa1 := HX4.out.cell 1
    have xa2 := HX4.out.cell 2
    have xa3 := HX4.out.cell 3
    have xa4 := HX4.out.cell 4
    have xa5 := HX4.out.cell 5
    have xa6 := HX4.out.cell 6
    have xa7 := HX4.out.cell 7
    have xa8 := HX4.out.cell 8
    have xa9 := HX4.out.cell 9
    have xa10 := HX4.out.cell 10
    simp only [List.getElem?_toArray, List.getElem?_cons_zero, List.getElem?_cons_succ] at xa0 xa1 xa2 xa3 xa4 xa5 xa6 xa7 xa8 xa9 xa10
    have fa0 := HX4.out.frozen 0
    have fa1 := HX4.out.frozen 1
    have fa2 := HX4.out.frozen 2
    have fa3 := HX4.out.frozen 3
    have fa4 := HX4.out.frozen 4
    have fa5 := HX4.out.frozen 5
    have fa6 := HX4.out.frozen 6
    have fa7 := HX4.out.frozen 7
    have fa8 := HX4.out.frozen 8
    have fa9 := HX4.out.frozen 9
    have fa10 := HX4.out.frozen 10
    have lx := HX4.out.lt
    have hx5 : Blk (((((((((((w4.setCell ⟨w.heap.size, 0, none⟩ (.int .i64 (c : Int))).setCell ⟨w.heap.size, 1, none⟩ (.int .i64 (r : Int))).setCell ⟨w.heap.size, 2, none⟩ (.slice Av n cv)).setCell ⟨w.heap.size, 3, none⟩ (.int .i64 W')).setCell ⟨w.heap.size, 4, none⟩ (.int .i64 H')).setCell ⟨w.heap.size, 5, none⟩ (.int .i64 hd')).setCell ⟨w.heap.size, 6, none⟩ (.int .i64 fo')).setCell ⟨w.heap.size, 7, none⟩ (.int .i64 sp')).setCell ⟨w.heap.size, 8, none⟩ (.int .i64 mg')).setCell ⟨w.heap.size, 9, none⟩ (.int .i64 cr)).setCell ⟨w.heap.size, 10, none⟩ (.int .i64 sty)) w.heap.size 26 #[.int .i64 (c : Int), .int .i64 (r : Int), .slice Av n cv, .int .i64 W', .int .i64 H', .int .i64 hd', .int .i64 fo', .int .i64 sp', .int .i64 mg', .int .i64 cr, .int .i64 sty] := by
      have := (((((((((((HX4.out.put 0 (.int .i64 (c : Int))).put 1 (.int .i64 (r : Int))).put 2 (.slice Av n cv)).put 3 (.int .i64 W')).put 4 (.int .i64 H')).put 5 (.int .i64 hd')).put 6 (.int .i64 fo')).put 7 (.int .i64 sp')).put 8 (.int .i64 mg')).put 9 (.int .i64 cr)).put 10 (.int .i64 sty)); simpa using this
    have hb5 : Below w.heap.size w (((((((((((w4.setCell ⟨w.heap.size, 0, none⟩ (.int .i64 (c : Int))).setCell ⟨w.heap.size, 1, none⟩ (.int .i64 (r : Int))).setCell ⟨w.heap.size, 2, none⟩ (.slice Av n cv)).setCell ⟨w.heap.size, 3, none⟩ (.int .i64 W')).setCell ⟨w.heap.size, 4, none⟩ (.int .i64 H')).setCell ⟨w.heap.size, 5, none⟩ (.int .i64 hd')).setCell ⟨w.heap.size, 6, none⟩ (.int .i64 fo')).setCell ⟨w.heap.size, 7, none⟩ (.int .i64 sp')).setCell ⟨w.heap.size, 8, none⟩ (.int .i64 mg')).setCell ⟨w.heap.size, 9, none⟩ (.int .i64 cr)).setCell ⟨w.heap.size, 10, none⟩ (.int .i64 sty)) := (((((((((((HB4.out.setCell (p := ⟨w.heap.size, 0, none⟩) (Nat.le_refl _) _).setCell (p := ⟨w.heap.size, 1, none⟩) (Nat.le_refl _) _).setCell (p := ⟨w.heap.size, 2, none⟩) (Nat.le_refl _) _).setCell (p := ⟨w.heap.size, 3, none⟩) (Nat.le_refl _) _).setCell (p := ⟨w.heap.size, 4, none⟩) (Nat.le_refl _) _).setCell (p := ⟨w.heap.size, 5, none⟩) (Nat.le_refl _) _).setCell (p := ⟨w.heap.size, 6, none⟩) (Nat.le_refl _) _).setCell (p := ⟨w.heap.size, 7, none⟩) (Nat.le_refl _) _).setCell (p := ⟨w.heap.size, 8, none⟩) (Nat.le_refl _) _).setCell (p := ⟨w.heap.size, 9, none⟩) (Nat.le_refl _) _).setCell (p := ⟨w.heap.size, 10, none⟩) (Nat.le_refl _) _)
    have HX5 := Lib.hid hx5
    have HB5 := Lib.hid hb5
    clear hx5 hb5
    go_wp2_with fail
    refine (HMg.out _ HB5.out).mono ?_; rintro e w6 ⟨vm2, rfl, hmk2, hb6⟩
    have HB6 := Lib.hid (HB5.out.trans (hb6.mono HB5.out.size))
    have HX6 := Lib.hid (HX5.out.below hb6 HX5.out.lt)
    have HK6 := Lib.hid hmk2
    obtain ⟨Ak, ck, ek⟩ := hmk2.form
    subst ek
    clear hb6 hmk2 xa0 xa1 xa2 xa3 xa4 xa5 xa6 xa7 xa8 xa9 xa10 fa0 fa1 fa2 fa3 fa4 fa5 fa6 fa7 fa8 fa9 fa10 lx
    have xa0 := HX6.out.cell 0
    have xa1 := HX6.out.cell 1
    have xa2 := HX6.out.cell 2
    have xa3 := HX6.out.cell 3
    have xa4 := HX6.out.cell 4
    have xa5 := HX6.out.cell 5
    have xa6 := HX6.out.cell 6
    have xa7 := HX6.out.cell 7
    have xa8 := HX6.out.cell 8
    have xa9 := HX6.out.cell 9
    have xa10 := HX6.out.cell 10
    simp only [List.getElem?_toArray, List.getElem?_cons_zero, List.getElem?_cons_succ] at xa0 xa1 xa2 xa3 xa4 xa5 xa6 xa7 xa8 xa9 xa10
    go_wp2_with fail
    refine (HSg.out _ HB6.out).mono ?_; rintro e w7 ⟨vf, vb, rfl, hf, hb, hb7⟩
    have HB7 := Lib.hid (HB6.out.trans (hb7.mono HB6.out.size))
    have HX7 := Lib.hid (HX6.out.below hb7 HX6.out.lt)
    have HK7 : Hid (MkV _ _ _ _) := Lib.hid (SlM.later HK6.out hb7)
    have HF7 := Lib.hid hf
    obtain ⟨Af, cf, ef⟩ := hf.form
    obtain ⟨Ab, cb, eb⟩ := hb.form
    subst ef eb
    clear hb7 hf hb xa0 xa1 xa2 xa3 xa4 xa5 xa6 xa7 xa8 xa9 xa10
    have xa0 := HX7.out.cell 0
    have xa1 := HX7.out.cell 1
    have xa2 := HX7.out.cell 2
    have xa3 := HX7.out.cell 3
    have xa4 := HX7.out.cell 4
    have xa5 := HX7.out.cell 5
    have xa6 := HX7.out.cell 6
    have xa7 := HX7.out.cell 7
    have xa8 := HX7.out.cell 8
    have xa9 := HX7.out.cell 9
    have xa10 := HX7.out.cell 10
    simp only [List.getElem?_toArray, List.getElem?_cons_zero, List.getElem?_cons_succ] at xa0 xa1 xa2 xa3 xa4 xa5 xa6 xa7 xa8 xa9 xa10
    have lx := HX7.out.lt
    generalize hnf : F.length = nf at *
    generalize Bk.length = nb at *
    generalize hnm : ms.length = nm at *
    have HNf := Lib.hid hnf
    have HNm := Lib.hid hnm
    clear hnf hnm
    go_wp2_with fail
    have hal := (Below.refl w7.heap.size w7).alloc (Nat.le_refl _) (Obj.cells #[.int .i64 (PW : Int), .int .i64 (PH : Int), .slice Af nf cf, .slice Ab nb cb] 30)
    have hs8 := Blk.new w7 30 #[.int .i64 (PW : Int), .int .i64 (PH : Int), .slice Af nf cf, .slice Ab nb cb]
    have HX8 := Lib.hid (HX7.out.below hal HX7.out.lt)
    have HB8 := Lib.hid (HB7.out.trans (hal.mono HB7.out.size))
    have HK8 : Hid (MkV _ _ _ _) := Lib.hid (SlM.later HK7.out hal)
    have HF8 : Hid (PlV _ _ _ _) := Lib.hid (SlM.later HF7.out hal)
    clear hal
    refine (HPg.out _ HB8.out).mono ?_; rintro e w9 ⟨vp, rfl, hop, hb9⟩
    have hil : (imgM PW PH ms).length = PW * PH := by unfold imgM; exact imgP_length _ _
    obtain ⟨pn, hpn⟩ : ∃ pn, PW * PH = pn := ⟨_, rfl⟩
    have hpn9 : pn ≤ 1048576 := by rw [← hpn]; exact Nat.mul_le_mul hP1.2.1 hP1.2.2.2
    have hmulP : (PW : Int) * (PH : Int) = (pn : Int) := by rw [← hpn]; simp
    rw [hil, hpn] at hop
    obtain ⟨Ap, cp, ep⟩ := own_form hop
    subst ep
    have HX9 := Lib.hid (HX8.out.below hb9 HX8.out.lt)
    have HS9 := Lib.hid (hs8.below hb9 hs8.lt)
    have HB9 := Lib.hid (HB8.out.trans (hb9.mono HB8.out.size))
    have HK9 : Hid (MkV _ _ _ _) := Lib.hid (SlM.later HK8.out hb9)
    have HF9 : Hid (PlV _ _ _ _) := Lib.hid (SlM.later HF8.out hb9)
    have HI9 : Hid (Sl w9 (fun _ => True) (.slice Ap pn cp) (byts (imgM PW PH ms))) := (Sl.of_own hop).mono fun _ _ _ => trivial
    have HPn := Lib.hid hpn
    have lS := HS9.out.lt
    clear hs8 hop hb9 hil hpn xa0 xa1 xa2 xa3 xa4 xa5 xa6 xa7 xa8 xa9 xa10 lx
    obtain ⟨cs, hcs, hmk⟩ : ∃ cs : Array Value, Hid (cs = (List.replicate pn (Value.int .u8 0)).toArray) ∧ ∀ W : World, (Instr.makeSlice 50 (.int .i64 (pn : Int)) (.int .i64 (pn : Int))).run Try.prog W = .ok (.slice (some ⟨W.heap.size, 0, none⟩) pn pn) (W.alloc (.cells cs 5)) := ⟨_, rfl, run_make1 eByte rfl pn (pn : Int) rfl (by omega) (by omega)⟩
    have s0 := HS9.out.cell 0
    have s1 := HS9.out.cell 1
    simp only [List.getElem?_toArray, List.getElem?_cons_zero, List.getElem?_cons_succ] at s0 s1
    go_wp2
    clear hmk s0 s1
    have hal := ((Below.refl w9.heap.size w9).alloc (Nat.le_refl _) (Obj.cells #[.int .i64 (PW : Int), .int .i64 (PH : Int), .slice Ap pn cp] 52)).alloc (by simp) (Obj.cells cs 5)
    have x10 := HX9.out.below hal HX9.out.lt
    have s10 := HS9.out.below hal HS9.out.lt
    have p10 := (Blk.new w9 52 #[.int .i64 (PW : Int), .int .i64 (PH : Int), .slice Ap pn cp]).alloc (Obj.cells cs 5)
    have b10 := HB9.out.trans (hal.mono HB9.out.size)
    have k10 : MkV _ _ _ _ := SlM.later (SlM.mono (ok' := fun b => b ≠ w9.heap.size + 1) HK9.out fun b hb _ => by omega) hal
    have f10 : PlV _ _ _ _ := SlM.later (SlM.mono (ok' := fun b => b ≠ w9.heap.size + 1) HF9.out fun b hb _ => by omega) hal
    have i10 := (HI9.out.mono (ok' := fun b => b ≠ w9.heap.size + 1) fun b hb _ => by omega).later hal
    have lw := HB9.out.size
    have r10 : BRow ((w9.alloc (Obj.cells #[.int .i64 (PW : Int), .int .i64 (PH : Int), .slice Ap pn cp] 52)).alloc (Obj.cells cs 5)) (w9.heap.size + 1) (imgM PW PH []) := by
      have := (Blk.new (w9.alloc (Obj.cells #[.int .i64 (PW : Int), .int .i64 (PH : Int), .slice Ap pn cp] 52)) 5 cs).row
      rw [World.size_alloc] at this
      unfold BRow
      rw [imgM_nil, HPn.out, List.map_replicate]
      rw [show cs.toList = List.replicate pn (Value.int .u8 0) from by rw [hcs.out]] at this
      exact this
    generalize (w9.alloc (Obj.cells #[.int .i64 (PW : Int), .int .i64 (PH : Int), .slice Ap pn cp] 52)).alloc (Obj.cells cs 5) = w10 at *
    have X10 := Lib.hid x10
    have S10 := Lib.hid s10
    have P10 := Lib.hid p10
    have B10 := Lib.hid b10
    have K10 : Hid (MkV _ _ _ _) := Lib.hid k10
    have F10 : Hid (PlV _ _ _ _) := Lib.hid f10
    have I10 := Lib.hid i10
    have R10 := Lib.hid r10
    clear hal x10 s10 p10 b10 k10 f10 i10 r10
    generalize hSS : w7.heap.size = S at *
    generalize hP9 : w9.heap.size = P9 at *
    clear hSS hP9
    have hck : nm ≤ ck ∧ ck ≤ 9223372036854775807 := by
      have := (SlM.caps K10.out).2
      unfold maxLen at this
      rw [HNm.out] at this; omega
    have hcf : nf ≤ cf ∧ cf ≤ 9223372036854775807 := by
      have := (SlM.caps F10.out).2
      unfold maxLen at this
      rw [HNf.out] at this; omega
    clear HI9 HK9 HF9 HX9 HS9 HB9 HK8 HF8 HX8 HB8 HK7 HF7 HX7 HB7 HK6 HX6 HB6 HX5 HB5 HX4 HB4 HX3 HB3
    go_loopw [112] (fun v112 wr => ∃ i : Nat, v112 = .int .i64 (i : Int) ∧ i ≤ nm ∧ BRow wr (P9 + 1) (imgM PW PH (ms.take i)) ∧ w10.grownBy wr (some (P9 + 1))) (fun v112 _ => nm - (intOf v112).toNat)
    case atStart => exact ⟨0, rfl, by omega, by rw [List.take_zero]; exact R10.out, World.grownBy.refl _ _⟩
    case round =>
      obtain ⟨i, rfl, hi, hr, hg⟩ := hrel
      by_cases hin : i < nm
      · have hK := SlM.grown K10.out hg fun b hb e => hb (Option.some.inj e)
        obtain ⟨mb, mo, capm, em, _, hmlt, _, _, hmc⟩ := MkV.cells hK (by rw [HNm.out]; omega)
        injection em with em1 em2 em3
        subst em1
        obtain ⟨d0, d1, d2, d3⟩ := hmc i (by rw [HNm.out]; exact hin)
        have hrd := HRu.out _ _ (HRd.out i hin)
        have hts := take_snoc' ms (mkN_get ms (by rw [HNm.out]; exact hin))
        obtain ⟨m1, hm1⟩ : ∃ m1, mkN ms i = m1 := ⟨_, rfl⟩
        rw [hm1] at d0 d1 d2 d3 hrd hts
        obtain ⟨mx, my, mw, mh⟩ := m1
        dsimp only at d0 d1 d2 d3 hrd
        obtain ⟨q1, q2, q3, q4, q5, q6, q7, q8, hout⟩ := hrd
        obtain ⟨nx, rfl⟩ := Int.eq_ofNat_of_zero_le q1
        obtain ⟨ny, rfl⟩ := Int.eq_ofNat_of_zero_le q2
        obtain ⟨ww, rfl⟩ := Int.eq_ofNat_of_zero_le (show 0 ≤ mw by omega)
        obtain ⟨hh, rfl⟩ := Int.eq_ofNat_of_zero_le (show 0 ≤ mh by omega)
        have HOut := Lib.hid hout
        have HTs := Lib.hid hts
        have hSx := S10.out.grown hg (fun e => by have := Option.some.inj e; omega)
        have s0 := hSx.cell 0
        have s1 := hSx.cell 1
        simp only [List.getElem?_toArray, List.getElem?_cons_zero, List.getElem?_cons_succ] at s0 s1
        have lS2 := hSx.lt
        have hrl := hr.lt
        have b13 := Blk.new wr 48 #[.int .i64 (nx : Int), .int .i64 (ny : Int), .int .i64 (ww : Int), .int .i64 (hh : Int)]
        have g13 := grown_alloc (World.grownBy.refl wr (some (P9 + 1))) (Obj.cells #[.int .i64 (nx : Int), .int .i64 (ny : Int), .int .i64 (ww : Int), .int .i64 (hh : Int)] 48)
        have r13 := Row.alloc hr (Obj.cells #[.int .i64 (nx : Int), .int .i64 (ny : Int), .int .i64 (ww : Int), .int .i64 (hh : Int)] 48)
        have g14 := grown_trans hg g13 (fun g e => .inl e)
        have B13 := Lib.hid b13
        have G14 := Lib.hid g14
        have R13 : Hid (BRow _ _ _) := Lib.hid r13
        clear hK hmc hm1 hts hout hSx b13 g13 r13 g14 hr hg em2 em3
        have hw0 : wr.heap.size ≠ P9 + 1 := by omega
        go_wp2
        clear d0 d1 d2 d3 s0 s1
        generalize wr.alloc (Obj.cells #[.int .i64 (nx : Int), .int .i64 (ny : Int), .int .i64 (ww : Int), .int .i64 (hh : Int)] 48) = w11 at *
        generalize hwz : wr.heap.size = B at *
        clear hwz
        have HXa : Hid (Blk w11 w.heap.size 26 #[.int .i64 (c : Int), .int .i64 (r : Int), .slice Av n cv, .int .i64 W', .int .i64 H', .int .i64 hd', .int .i64 fo', .int .i64 sp', .int .i64 mg', .int .i64 cr, .int .i64 sty]) := X10.out.grown G14.out (fun e => by have := Option.some.inj e; omega)
        have HSa := Lib.hid (S10.out.grown G14.out (fun e => by have := Option.some.inj e; omega))
        have HFa : Hid (PlV _ _ _ _) := Lib.hid (SlM.grown F10.out G14.out fun b hb e => hb (Option.some.inj e))
        go_loopw [14, 146] (fun _ v146 wr => ∃ vv : Nat, v146 = .int .i64 (vv : Int) ∧ vv ≤ hh ∧ BRow wr (P9 + 1) (wantTo PW PH (ms.take i) (⟨(nx : Int), (ny : Int), (ww : Int), (hh : Int)⟩ : Mk) vv 0) ∧ w11.grownBy wr (some (P9 + 1))) (fun _ v146 _ => hh - (intOf v146).toNat)
        case atStart => exact ⟨0, rfl, by omega, by rw [wantTo_start]; exact R13.out, World.grownBy.refl _ _⟩
        case round =>
          obtain ⟨vv, rfl, hvv, hr, hg⟩ := hrel
          by_cases hvl : vv < hh
          · have e2 := (B13.out.grown hg (fun e => hw0 (Option.some.inj e))).cell 2
            simp only [List.getElem?_toArray, List.getElem?_cons_zero, List.getElem?_cons_succ] at e2
            have HR := Lib.hid hr
            have HG := Lib.hid hg
            clear hr hg
            have hd1 : decide (vv < hh) = true := decide_eq_true hvl
            go_wp2
            clear e2 hd1
            go_loopw [15, 151] (fun _ v151 wr => ∃ uu : Nat, v151 = .int .i64 (uu : Int) ∧ uu ≤ ww ∧ BRow wr (P9 + 1) (wantTo PW PH (ms.take i) (⟨(nx : Int), (ny : Int), (ww : Int), (hh : Int)⟩ : Mk) vv uu) ∧ w11.grownBy wr (some (P9 + 1))) (fun _ v151 _ => ww - (intOf v151).toNat)
            case atStart => exact ⟨0, rfl, by omega, HR.out, HG.out⟩
            case round =>
              obtain ⟨uu, rfl, huu, hr, hg⟩ := hrel
              by_cases hul : uu < ww
              · have hb13 := B13.out.grown hg (fun e => hw0 (Option.some.inj e))
                have e0 := hb13.cell 0
                have e1 := hb13.cell 1
                have e3 := (HSa.out.grown hg (fun e => by have := Option.some.inj e; omega)).cell 0
                simp only [List.getElem?_toArray, List.getElem?_cons_zero, List.getElem?_cons_succ] at e0 e1 e3
                obtain ⟨hidx, hset⟩ := wantTo_step (W := PW) (H := PH) (ms.take i) (m := (⟨(nx : Int), (ny : Int), (ww : Int), (hh : Int)⟩ : Mk)) (v := vv) (u := uu) (by omega) (by dsimp only; omega) (by dsimp only; omega) (by dsimp only; omega) (by dsimp only; omega) (by dsimp only; omega) (by dsimp only; omega)
                dsimp only at hidx hset
                rw [Int.toNat_natCast, Int.toNat_natCast] at hidx hset
                rw [HPn.out] at hidx
                have hq1 : ((ny : Int) + (vv : Int)) * (PW : Int) = (((ny + vv) * PW : Nat) : Int) := by simp
                generalize (ny + vv) * PW = q at *
                have hlen : (wantTo PW PH (ms.take i) (⟨(nx : Int), (ny : Int), (ww : Int), (hh : Int)⟩ : Mk) vv uu).length = pn := by rw [wantTo_length]; exact HPn.out
                have hput := BRow.put hr (k := q + nx + uu) (by rw [hlen]; exact hidx) 255
                rw [hset] at hput
                have e4 := BRow.at_ hr (i := q + nx + uu) (by rw [hlen]; exact hidx)
                have e5 := BRow.free_ hr (i := q + nx + uu) (by rw [hlen]; exact hidx)
                have lt6 := hr.lt
                have hg2 := grown_set hg (q + nx + uu) (.int .u8 255)
                have hq2 : (q : Int) + (nx : Int) + (uu : Int) = ((q + nx + uu : Nat) : Int) := by omega
                generalize q + nx + uu = ix at *
                have HR2 : Hid (BRow (wr.setCell ⟨P9 + 1, ix, none⟩ (.int .u8 255)) (P9 + 1) (wantTo PW PH (ms.take i) (⟨(nx : Int), (ny : Int), (ww : Int), (hh : Int)⟩ : Mk) vv (uu + 1))) := hput
                have HG2 := Lib.hid hg2
                have hix : (ix : Int) < pn := by omega
                have hix0 : (0 : Int) ≤ (ix : Int) := by omega
                have hd1 : decide (uu < ww) = true := decide_eq_true hul
                clear hb13 hset hput hr hg hg2 hlen
                go_wp2
                go_roundw
                case rel => exact ⟨uu + 1, by go_num, by omega, HR2.out, HG2.out⟩
                case measure => simp [intOf]; omega
              · obtain rfl : uu = ww := by omega
                have HR2 := Lib.hid hr
                have HG2 := Lib.hid hg
                have hd1 : decide (uu < uu) = false := by simp
                clear hr hg
                go_wp2
                go_roundw
                case rel => exact ⟨vv + 1, by go_num, by omega, by rw [← wantTo_row PW PH (ms.take i) _ vv (u := uu) rfl]; exact HR2.out, HG2.out⟩
                case measure => simp [intOf]; omega
          · obtain rfl : vv = hh := by omega
            have hwe := wantTo_end PW PH (ms.take i) (⟨(nx : Int), (ny : Int), (ww : Int), (vv : Int)⟩ : Mk) (v := vv) rfl
            rw [hwe, ← HTs.out] at hr
            have HR := Lib.hid hr
            have HG := Lib.hid hg
            have e3 := (HSa.out.grown hg (fun e => by have := Option.some.inj e; omega)).cell 2
            simp only [List.getElem?_toArray, List.getElem?_cons_zero, List.getElem?_cons_succ] at e3
            clear hr hg hwe
            go_wp2
            clear e3
            go_loopw [173] (fun v173 wr => ∃ j : Nat, v173 = .int .i64 (j : Int) ∧ j ≤ nf ∧ BRow wr (P9 + 1) (imgM PW PH (ms.take (i + 1))) ∧ w11.grownBy wr (some (P9 + 1))) (fun v173 _ => nf - (intOf v173).toNat)
            case atStart => exact ⟨0, rfl, by omega, HR.out, HG.out⟩
            case round =>
              obtain ⟨j, rfl, hj, hr, hg⟩ := hrel
              by_cases hjn : j < nf
              · have hF := SlM.grown HFa.out hg fun b hb e => hb (Option.some.inj e)
                obtain ⟨fb, fo9, capf, em, _, hflt, _, _, hfc⟩ := PlV.cells hF (by rw [HNf.out]; omega)
                injection em with em1 em2 em3
                subst em1
                obtain ⟨d0, d1, d2, d3⟩ := hfc j (by rw [HNf.out]; exact hjn)
                have hfr := HFr.out j hjn
                have hout := HOut.out j (by rw [HNf.out]; exact hjn)
                obtain ⟨p1, hp1⟩ : ∃ p1, plN F j = p1 := ⟨_, rfl⟩
                rw [hp1] at d0 d1 d2 d3 hfr hout
                obtain ⟨pp, px, py, pt⟩ := p1
                dsimp only at d0 d1 d2 d3 hfr hout
                obtain ⟨k1, k2, k3, k4⟩ := HWd.out pt
                obtain ⟨y1, y2, y3, y4, y5, y6⟩ := hfr
                have HBx := Lib.hid (fun w => HBox.out ⟨pp, px, py, pt⟩ w y1 y2 y3 y4 y5 y6)
                dsimp only at HBx
                generalize BW pt = bw at *
                generalize BH pt = bh at *
                have hx := HXa.out.grown hg (fun e => by have := Option.some.inj e; omega)
                have xa0 := hx.cell 0
                have xa1 := hx.cell 1
                have xa2 := hx.cell 2
                have xa3 := hx.cell 3
                have xa4 := hx.cell 4
                have xa5 := hx.cell 5
                have xa6 := hx.cell 6
                have xa7 := hx.cell 7
                have xa8 := hx.cell 8
                have xa9 := hx.cell 9
                have xa10 := hx.cell 10
                simp only [List.getElem?_toArray, List.getElem?_cons_zero, List.getElem?_cons_succ] at xa0 xa1 xa2 xa3 xa4 xa5 xa6 xa7 xa8 xa9 xa10
                have lx := hx.lt
                have hb13 := B13.out.grown hg (fun e => hw0 (Option.some.inj e))
                have HB13 := Lib.hid hb13
                have l13 := hb13.lt
                have hlr := hr.lt
                have hr1 := Row.alloc hr (Obj.cells #[.int .i64 pp, .int .i64 px, .int .i64 py, .int .i64 pt] 36)
                have hg1 := grown_alloc hg (Obj.cells #[.int .i64 pp, .int .i64 px, .int .i64 py, .int .i64 pt] 36)
                have HR1 : Hid (Row _ _ _) := Lib.hid hr1
                have HG1 := Lib.hid hg1
                have hO : ¬ px < (nx : Int) + ww ∨ (px < (nx : Int) + ww ∧ ¬ (nx : Int) < px + bw) ∨ (px < (nx : Int) + ww ∧ (nx : Int) < px + bw ∧ ¬ py < (ny : Int) + vv) ∨ (px < (nx : Int) + ww ∧ (nx : Int) < px + bw ∧ py < (ny : Int) + vv ∧ ¬ (ny : Int) < py + bh) := by omega
                have HO4 := Lib.hid hO
                clear hF hfc hp1 hout hx hb13 hr hg hr1 hg1 em2 em3 hO
                go_wp2_with fail
                refine (HBx.out _).mono ?_; rintro e wz ⟨rfl, hbz⟩
                have hb13 := (HB13.out.alloc (Obj.cells #[.int .i64 pp, .int .i64 px, .int .i64 py, .int .i64 pt] 36)).below hbz (by simp; omega)
                have e0 := hb13.cell 0
                have e1 := hb13.cell 1
                have e2 := hb13.cell 2
                have e3 := hb13.cell 3
                simp only [List.getElem?_toArray, List.getElem?_cons_zero, List.getElem?_cons_succ] at e0 e1 e2 e3
                have hr2 := Row.below HR1.out hbz HR1.out.lt
                have hg2 := grown_trans HG1.out (grown_of_below hbz (some (P9 + 1))) (fun g e => .inl e)
                have HR2 : Hid (BRow _ _ _) := Lib.hid hr2
                have HG2 := Lib.hid hg2
                clear hr2 hg2 hbz hb13 xa0 xa1 xa2 xa3 xa4 xa5 xa6 xa7 xa8 xa9 xa10 d0 d1 d2 d3
                rcases HO4.out with n1 | ⟨n1, n2⟩ | ⟨n1, n2, n3⟩ | ⟨n1, n2, n3, n4⟩
                · have t1 : decide (px < (nx : Int) + ww) = false := decide_eq_false (by omega)
                  clear n1
                  go_wp2
                  go_roundw
                  case rel => exact ⟨j + 1, by go_num, by omega, HR2.out, HG2.out⟩
                  case measure => simp [intOf]; omega
                · have t1 : decide (px < (nx : Int) + ww) = true := decide_eq_true n1
                  have t2 : decide ((nx : Int) < px + bw) = false := decide_eq_false (by omega)
                  clear n1 n2
                  go_wp2
                  go_roundw
                  case rel => exact ⟨j + 1, by go_num, by omega, HR2.out, HG2.out⟩
                  case measure => simp [intOf]; omega
                · have t1 : decide (px < (nx : Int) + ww) = true := decide_eq_true n1
                  have t2 : decide ((nx : Int) < px + bw) = true := decide_eq_true n2
                  have t3 : decide (py < (ny : Int) + vv) = false := decide_eq_false (by omega)
                  clear n1 n2 n3
                  go_wp2
                  go_roundw
                  case rel => exact ⟨j + 1, by go_num, by omega, HR2.out, HG2.out⟩
                  case measure => simp [intOf]; omega
                · have t1 : decide (px < (nx : Int) + ww) = true := decide_eq_true n1
                  have t2 : decide ((nx : Int) < px + bw) = true := decide_eq_true n2
                  have t3 : decide (py < (ny : Int) + vv) = true := decide_eq_true n3
                  have t4 : decide ((ny : Int) < py + bh) = false := decide_eq_false (by omega)
                  clear n1 n2 n3 n4
                  go_wp2
                  go_roundw
                  case rel => exact ⟨j + 1, by go_num, by omega, HR2.out, HG2.out⟩
                  case measure => simp [intOf]; omega
              · obtain rfl : j = nf := by omega
                have HR2 := Lib.hid hr
                have HG2 := Lib.hid (grown_trans G14.out hg (fun g e => .inl e))
                clear hr hg
                go_wp2
                go_roundw
                case rel => exact ⟨i + 1, by go_num, by omega, HR2.out, HG2.out⟩
                case measure => simp [intOf]; omega
      · obtain rfl : i = nm := by omega
        have hfull : ms.take i = ms := by rw [← HNm.out, List.take_length]
        rw [hfull] at hr
        have hp := P10.out.grown hg (fun e => by have := Option.some.inj e; omega)
        have e2 := hp.cell 2
        simp only [List.getElem?_toArray, List.getElem?_cons_zero, List.getElem?_cons_succ] at e2
        have hil : (imgM PW PH ms).length = pn := by unfold imgM; rw [imgP_length]; exact HPn.out
        have hI := Sl.grown I10.out hg fun b hb e => hb (Option.some.inj e)
        have hS : Sl wr (fun _ => True) (.slice (some ⟨P9 + 1, 0, none⟩) pn pn) (byts (imgM PW PH ms)) := by
          refine ⟨_, pn, ?_, by rw [byts_length, hil]; exact Nat.le_refl _, by unfold maxLen; omega, fun _ => ⟨⟨P9 + 1, 0, none⟩, rfl, trivial, hr.lt, fun k u hu => ?_⟩⟩
          · rw [byts_length, hil]
          · rw [add_plain, Nat.zero_add]; exact hr.cell k u hu
        have hbw := B10.out.grown hg B10.out.size (fun k hk => by have := Option.some.inj hk; omega)
        have HI3 := Lib.hid hI
        have HS3 := Lib.hid hS
        have HB3 := Lib.hid hbw
        have HIl := Lib.hid hil
        clear hp hI hS hbw hr hg hfull hil
        go_wp2_with fail
        refine (equal_bytes _ _ (imgM PW PH ms) _ _ _ HI3.out HS3.out (by rw [HIl.out]; omega)).mono ?_; rintro e wz ⟨rfl, hbz⟩
        have HBz := Lib.hid (HB3.out.trans (hbz.mono HB3.out.size))
        clear hbz
        go_wp2
        go_ret
        exact ⟨rfl, HBz.out⟩
  · have HMb : Hid (∀ w', Below w.heap.size w w' → Calls Try.prog 13 #[I.small.val (.slice Av l.length cv)] w' fun e w'' => e = .returned (.tuple #[.slice none 0 0, .int .i64 (impZ I.small l)]) ∧ Below w'.heap.size w' w'') := fun w' hb => marks_bad I.small _ l w' (SlM.later HI.out hb) hz
    have HSb : Hid (∀ k w', Below w.heap.size w w' → Calls Try.prog 10 #[I.small.val (.slice Av l.length cv), .int .i64 k] w' (SheetErr (impZ I.small l) w')) := fun k w' hb => sheet_bad I.small _ l k w' (SlM.later HI.out hb) hz
    have hzb : (impZ I.small l == 0) = false := by simpa using hz
    have hzn : (impZ I.small l != 0) = true := by simpa using hz
    clear hI hz
    generalize impZ I.small l = z at *
    unfold LayI.small LayI.val at *
    obtain ⟨C, R, W, H, hd, fo, sp, mg, cr, sty⟩ := I
    dsimp only at *
    generalize wi W 1 6 = W' at *
    generalize wi H 1 6 = H' at *
    generalize wi hd 0 2 = hd' at *
    generalize wi fo 0 2 = fo' at *
    generalize wi sp 0 12 = sp' at *
    generalize wi mg 0 4 = mg' at *
    generalize l.length = n at *
    have hb0 := Lib.hid ((Below.refl w.heap.size w).alloc (Nat.le_refl _) (Obj.cells #[.int .i64 C, .int .i64 R, .slice Av n cv, .int .i64 W, .int .i64 H, .int .i64 hd, .int .i64 fo, .int .i64 sp, .int .i64 mg, .int .i64 cr, .int .i64 sty] 26))
    have hbl0 := Lib.hid (Blk.new w 26 #[.int .i64 C, .int .i64 R, .slice Av n cv, .int .i64 W, .int .i64 H, .int .i64 hd, .int .i64 fo, .int .i64 sp, .int .i64 mg, .int .i64 cr, .int .i64 sty])
    go_enter Try.func5, Try.ntmps5
    go_wp2_with fail
    refine (HO.out _).mono ?_; rintro e w1 ⟨vo, rfl, hso, hb1⟩
    obtain ⟨Ao, co, eo⟩ := SlM.form hso
    subst eo
    have HSo := Lib.hid hso
    have HB1 := Lib.hid (hb0.out.trans (hb1.mono hb0.out.size))
    have HX1 := Lib.hid (hbl0.out.below hb1 hbl0.out.lt)
    clear hso hb1
    generalize onceL.length = no at *
    go_wp2_with fail
    refine (HMo.out _ _ HSo.out).mono ?_; rintro e w2 ⟨vm, rfl, hmk, hb2⟩
    obtain ⟨Am, cm, em⟩ := hmk.form
    subst em
    have HMk := Lib.hid hmk
    have HB2 := Lib.hid (HB1.out.trans (hb2.mono HB1.out.size))
    have HX2 := Lib.hid (HX1.out.below hb2 HX1.out.lt)
    clear hmk hb2
    go_wp2_with fail
    have hal := (Below.refl w2.heap.size w2).alloc (Nat.le_refl _) (Obj.cells #[.int .i64 12, .int .i64 0, .int .i64 1, .int .i64 1, .int .i64 12, .int .i64 13, .int .i64 1, .int .i64 1] 48)
    refine (equal_mk _ _ [⟨12, 0, 1, 1⟩, ⟨12, 13, 1, 1⟩] _ _ _ (SlM.later HMk.out hal) (mkv_new w2 [⟨12, 0, 1, 1⟩, ⟨12, 13, 1, 1⟩]) (by simp)).mono ?_; rintro e w3 ⟨rfl, hb3⟩
    have hb23 := hal.trans (hb3.mono hal.size)
    have HB3 := Lib.hid (HB2.out.trans (hb23.mono HB2.out.size))
    have HX3 := Lib.hid (HX2.out.below hb23 HX2.out.lt)
    clear hal hb3 hb23
    have xa0 := HX3.out.cell 0
    have xa1 := HX3.out.cell 1
    have xa2 := HX3.out.cell 2
    have xa3 := HX3.out.cell 3
    have xa4 := HX3.out.cell 4
    have xa5 := HX3.out.cell 5
    have xa6 := HX3.out.cell 6
    have xa7 := HX3.out.cell 7
    have xa8 := HX3.out.cell 8
    have xa9 := HX3.out.cell 9
    have xa10 := HX3.out.cell 10
    simp only [List.getElem?_toArray, List.getElem?_cons_zero, List.getElem?_cons_succ] at xa0 xa1 xa2 xa3 xa4 xa5 xa6 xa7 xa8 xa9 xa10
    go_wp2_with fail
    refine (HTi.out _).mono ?_; rintro e w4 ⟨rfl, hb4⟩
    have HB4 := Lib.hid (HB3.out.trans (hb4.mono HB3.out.size))
    have HX4 := Lib.hid (HX3.out.below hb4 HX3.out.lt)
    clear hb4 xa0 xa1 xa2 xa3 xa4 xa5 xa6 xa7 xa8 xa9 xa10
    have xa0 := HX4.out.cell 0
    have xa1 := HX4.out.cell 1
    have xa2 := HX4.out.cell 2
    have xa3 := HX4.out.cell 3
    have xa4 := HX4.out.cell 4
    have xa5 := HX4.out.cell 5
    have xa6 := HX4.out.cell 6
    have xa7 := HX4.out.cell 7
    have xa8 := HX4.out.cell 8
    have xa9 := HX4.out.cell 9
    have xa10 := HX4.out.cell 10
    simp only [List.getElem?_toArray, List.getElem?_cons_zero, List.getElem?_cons_succ] at xa0 xa1 xa2 xa3 xa4 xa5 xa6 xa7 xa8 xa9 xa10
    have fa0 := HX4.out.frozen 0
    have fa1 := HX4.out.frozen 1
    have fa2 := HX4.out.frozen 2
    have fa3 := HX4.out.frozen 3
    have fa4 := HX4.out.frozen 4
    have fa5 := HX4.out.frozen 5
    have fa6 := HX4.out.frozen 6
    have fa7 := HX4.out.frozen 7
    have fa8 := HX4.out.frozen 8
    have fa9 := HX4.out.frozen 9
    have fa10 := HX4.out.frozen 10
    have lx := HX4.out.lt
    have hx5 : Blk (((((((((((w4.setCell ⟨w.heap.size, 0, none⟩ (.int .i64 C)).setCell ⟨w.heap.size, 1, none⟩ (.int .i64 R)).setCell ⟨w.heap.size, 2, none⟩ (.slice Av n cv)).setCell ⟨w.heap.size, 3, none⟩ (.int .i64 W')).setCell ⟨w.heap.size, 4, none⟩ (.int .i64 H')).setCell ⟨w.heap.size, 5, none⟩ (.int .i64 hd')).setCell ⟨w.heap.size, 6, none⟩ (.int .i64 fo')).setCell ⟨w.heap.size, 7, none⟩ (.int .i64 sp')).setCell ⟨w.heap.size, 8, none⟩ (.int .i64 mg')).setCell ⟨w.heap.size, 9, none⟩ (.int .i64 cr)).setCell ⟨w.heap.size, 10, none⟩ (.int .i64 sty)) w.heap.size 26 #[.int .i64 C, .int .i64 R, .slice Av n cv, .int .i64 W', .int .i64 H', .int .i64 hd', .int .i64 fo', .int .i64 sp', .int .i64 mg', .int .i64 cr, .int .i64 sty] := by
      have := (((((((((((HX4.out.put 0 (.int .i64 C)).put 1 (.int .i64 R)).put 2 (.slice Av n cv)).put 3 (.int .i64 W')).put 4 (.int .i64 H')).put 5 (.int .i64 hd')).put 6 (.int .i64 fo')).put 7 (.int .i64 sp')).put 8 (.int .i64 mg')).put 9 (.int .i64 cr)).put 10 (.int .i64 sty)); simpa using this
    have hb5 : Below w.heap.size w (((((((((((w4.setCell ⟨w.heap.size, 0, none⟩ (.int .i64 C)).setCell ⟨w.heap.size, 1, none⟩ (.int .i64 R)).setCell ⟨w.heap.size, 2, none⟩ (.slice Av n cv)).setCell ⟨w.heap.size, 3, none⟩ (.int .i64 W')).setCell ⟨w.heap.size, 4, none⟩ (.int .i64 H')).setCell ⟨w.heap.size, 5, none⟩ (.int .i64 hd')).setCell ⟨w.heap.size, 6, none⟩ (.int .i64 fo')).setCell ⟨w.heap.size, 7, none⟩ (.int .i64 sp')).setCell ⟨w.heap.size, 8, none⟩ (.int .i64 mg')).setCell ⟨w.heap.size, 9, none⟩ (.int .i64 cr)).setCell ⟨w.heap.size, 10, none⟩ (.int .i64 sty)) := (((((((((((HB4.out.setCell (p := ⟨w.heap.size, 0, none⟩) (Nat.le_refl _) _).setCell (p := ⟨w.heap.size, 1, none⟩) (Nat.le_refl _) _).setCell (p := ⟨w.heap.size, 2, none⟩) (Nat.le_refl _) _).setCell (p := ⟨w.heap.size, 3, none⟩) (Nat.le_refl _) _).setCell (p := ⟨w.heap.size, 4, none⟩) (Nat.le_refl _) _).setCell (p := ⟨w.heap.size, 5, none⟩) (Nat.le_refl _) _).setCell (p := ⟨w.heap.size, 6, none⟩) (Nat.le_refl _) _).setCell (p := ⟨w.heap.size, 7, none⟩) (Nat.le_refl _) _).setCell (p := ⟨w.heap.size, 8, none⟩) (Nat.le_refl _) _).setCell (p := ⟨w.heap.size, 9, none⟩) (Nat.le_refl _) _).setCell (p := ⟨w.heap.size, 10, none⟩) (Nat.le_refl _) _)
    have HX5 := Lib.hid hx5
    have HB5 := Lib.hid hb5
    clear hx5 hb5
    go_wp2_with fail
    refine (HMb.out _ HB5.out).mono ?_; rintro e w6 ⟨rfl, hb6⟩
    have HB6 := Lib.hid (HB5.out.trans (hb6.mono HB5.out.size))
    have HX6 := Lib.hid (HX5.out.below hb6 HX5.out.lt)
    clear hb6 xa0 xa1 xa2 xa3 xa4 xa5 xa6 xa7 xa8 xa9 xa10 fa0 fa1 fa2 fa3 fa4 fa5 fa6 fa7 fa8 fa9 fa10 lx
    have xa0 := HX6.out.cell 0
    have xa1 := HX6.out.cell 1
    have xa2 := HX6.out.cell 2
    have xa3 := HX6.out.cell 3
    have xa4 := HX6.out.cell 4
    have xa5 := HX6.out.cell 5
    have xa6 := HX6.out.cell 6
    have xa7 := HX6.out.cell 7
    have xa8 := HX6.out.cell 8
    have xa9 := HX6.out.cell 9
    have xa10 := HX6.out.cell 10
    simp only [List.getElem?_toArray, List.getElem?_cons_zero, List.getElem?_cons_succ] at xa0 xa1 xa2 xa3 xa4 xa5 xa6 xa7 xa8 xa9 xa10
    go_wp2_with fail
    refine (HSb.out _ _ HB6.out).mono ?_; rintro e w7 ⟨rfl, hb7⟩
    have HB7 := Lib.hid (HB6.out.trans (hb7.mono HB6.out.size))
    clear hb7 xa0 xa1 xa2 xa3 xa4 xa5 xa6 xa7 xa8 xa9 xa10
    go_wp2
    go_ret
    exact ⟨rfl, HB7.out.alloc HB7.out.size _⟩
end Go.Proofs.Ytjcijogdcafloaa
