/- The walk of ImposeFewerPages. -/
import Derived.Test.YtjcijogdcafloaaFewM
namespace Go.Proofs.Ytjcijogdcafloaa
open Go.RowKit
theorem lay_cells {w : World} {g : Nat} {t : TypeId} {a0 a1 a2 a3 a4 a5 a6 a7 a8 a9 a10 : Value} (h : Blk w g t #[a0, a1, a2, a3, a4, a5, a6, a7, a8, a9, a10]) :
    w.cell? ⟨g, 0, none⟩ = some a0 ∧ w.cell? ⟨g, 1, none⟩ = some a1 ∧ w.cell? ⟨g, 2, none⟩ = some a2 ∧ w.cell? ⟨g, 3, none⟩ = some a3 ∧ w.cell? ⟨g, 4, none⟩ = some a4 ∧ w.cell? ⟨g, 5, none⟩ = some a5 ∧ w.cell? ⟨g, 6, none⟩ = some a6 ∧ w.cell? ⟨g, 7, none⟩ = some a7 ∧ w.cell? ⟨g, 8, none⟩ = some a8 ∧ w.cell? ⟨g, 9, none⟩ = some a9 ∧ w.cell? ⟨g, 10, none⟩ = some a10 :=
  ⟨h.cell 0, h.cell 1, h.cell 2, h.cell 3, h.cell 4, h.cell 5, h.cell 6, h.cell 7, h.cell 8, h.cell 9, h.cell 10⟩
theorem lay_frozen {w : World} {g : Nat} {t : TypeId} {cs : Array Value} (h : Blk w g t cs) :
    w.frozen? ⟨g, 0, none⟩ = false ∧ w.frozen? ⟨g, 1, none⟩ = false ∧ w.frozen? ⟨g, 2, none⟩ = false ∧ w.frozen? ⟨g, 3, none⟩ = false ∧ w.frozen? ⟨g, 4, none⟩ = false ∧ w.frozen? ⟨g, 5, none⟩ = false ∧ w.frozen? ⟨g, 6, none⟩ = false ∧ w.frozen? ⟨g, 7, none⟩ = false ∧ w.frozen? ⟨g, 8, none⟩ = false ∧ w.frozen? ⟨g, 9, none⟩ = false ∧ w.frozen? ⟨g, 10, none⟩ = false :=
  ⟨h.frozen 0, h.frozen 1, h.frozen 2, h.frozen 3, h.frozen 4, h.frozen 5, h.frozen 6, h.frozen 7, h.frozen 8, h.frozen 9, h.frozen 10⟩
theorem four_cells {w : World} {g : Nat} {t : TypeId} {a0 a1 a2 a3 : Value} (h : Blk w g t #[a0, a1, a2, a3]) :
    w.cell? ⟨g, 0, none⟩ = some a0 ∧ w.cell? ⟨g, 1, none⟩ = some a1 ∧ w.cell? ⟨g, 2, none⟩ = some a2 ∧ w.cell? ⟨g, 3, none⟩ = some a3 := ⟨h.cell 0, h.cell 1, h.cell 2, h.cell 3⟩
theorem three_cells {w : World} {g : Nat} {t : TypeId} {a0 a1 a2 : Value} (h : Blk w g t #[a0, a1, a2]) :
    w.cell? ⟨g, 0, none⟩ = some a0 ∧ w.cell? ⟨g, 1, none⟩ = some a1 ∧ w.cell? ⟨g, 2, none⟩ = some a2 := ⟨h.cell 0, h.cell 1, h.cell 2⟩
/-- The boxes of the two arguments. -/
structure ArM (cs : Array Value) (mv : Int) (w wr : World) : Prop where
  bl : Blk wr w.heap.size 26 cs
  bm : Blk wr (w.heap.size + 1) 3 #[.int .i64 mv]
  be : Below w.heap.size w wr
section
variable {cs : Array Value} {mv mv' : Int} {w wr wa : World} {a0 a1 a2 a3 a4 a5 a6 a7 a8 a9 a10 : Value} {b0 b1 b2 b3 b4 b5 b6 b7 b8 b9 b10 : Value}
theorem ArM.later (h : ArM cs mv w wr) (hb : Below wr.heap.size wr wa) : ArM cs mv w wa :=
  ⟨h.bl.below hb h.bl.lt, h.bm.below hb h.bm.lt, h.be.trans (hb.mono h.be.size)⟩
theorem ArM.start (w : World) (cs : Array Value) (mv : Int) : ArM cs mv w ((w.alloc (.cells cs 26)).alloc (.cells #[.int .i64 mv] 3)) := by
  refine ⟨(Blk.new w _ cs).alloc _, ?_, ((Below.refl _ _).alloc (Nat.le_refl _) _).alloc (by simp) _⟩
  have := Blk.new (w.alloc (.cells cs 26)) 3 #[.int .i64 mv]
  rw [World.size_alloc] at this; exact this
theorem ArM.put11 (h : ArM #[a0, a1, a2, a3, a4, a5, a6, a7, a8, a9, a10] mv w wr) :
    ArM #[b0, b1, b2, b3, b4, b5, b6, b7, b8, b9, b10] mv w (((((((((((wr.setCell ⟨w.heap.size, 0, none⟩ b0).setCell ⟨w.heap.size, 1, none⟩ b1).setCell ⟨w.heap.size, 2, none⟩ b2).setCell ⟨w.heap.size, 3, none⟩ b3).setCell ⟨w.heap.size, 4, none⟩ b4).setCell ⟨w.heap.size, 5, none⟩ b5).setCell ⟨w.heap.size, 6, none⟩ b6).setCell ⟨w.heap.size, 7, none⟩ b7).setCell ⟨w.heap.size, 8, none⟩ b8).setCell ⟨w.heap.size, 9, none⟩ b9).setCell ⟨w.heap.size, 10, none⟩ b10) := by
  refine ⟨?_, ?_, ?_⟩
  · have := ((((((((((h.bl.put 0 b0).put 1 b1).put 2 b2).put 3 b3).put 4 b4).put 5 b5).put 6 b6).put 7 b7).put 8 b8).put 9 b9).put 10 b10; simpa using this
  · exact ((((((((((h.bm.far (by simp) _).far (by simp) _).far (by simp) _).far (by simp) _).far (by simp) _).far (by simp) _).far (by simp) _).far (by simp) _).far (by simp) _).far (by simp) _).far (by simp) _
  · exact ((((((((((h.be.setCell (Nat.le_refl _) _).setCell (Nat.le_refl _) _).setCell (Nat.le_refl _) _).setCell (Nat.le_refl _) _).setCell (Nat.le_refl _) _).setCell (Nat.le_refl _) _).setCell (Nat.le_refl _) _).setCell (Nat.le_refl _) _).setCell (Nat.le_refl _) _).setCell (Nat.le_refl _) _).setCell (Nat.le_refl _) _
theorem ArM.many (h : ArM cs mv w wr) : ArM cs mv' w (wr.setCell ⟨w.heap.size + 1, 0, none⟩ (.int .i64 mv')) := by
  refine ⟨h.bl.far (by simp) _, ?_, h.be.setCell (by simp) _⟩
  have := h.bm.put 0 (.int .i64 mv'); simpa using this
end
/-- What ImposeFewerPages knows of a layout that Check takes. -/
structure FewK (v : Value) (lv : Value) (N m PW PH W H : Nat) (back : Bool) (w : World) (F1 F2 B1 B2 : List Pla) (img : List (List UInt8) → List UInt8) : Prop where
  shA : ∀ w', Below w.heap.size w w' → Calls Try.prog 10 #[lv, .int .i64 (N : Int)] w' (SheetOk PW PH (F1 ++ F2) (B1 ++ B2) w')
  shM : ∀ w', Below w.heap.size w w' → Calls Try.prog 10 #[lv, .int .i64 (m : Int)] w' (SheetOk PW PH F1 B1 w')
  pl : ∀ w' vp vals pages, Below w.heap.size w w' → PgV w' (fun _ => True) vp W H vals pages → pages.length ≤ N → Calls Try.prog 17 #[lv, vp, .bool back, .bool true] w' (PlateOk PW PH (img pages) w')
  im : ∀ pages, pages.length = N → (∀ j, m ≤ j → j < N → pcN pages j = List.replicate (W * H) 0) → img (pages.take m) = img pages
  il : ∀ pages, (img pages).length = PW * PH
  f1 : ∀ p ∈ F1, p.page ≤ m
  f2 : ∀ p ∈ F2, (m : Int) < p.page
  b1 : ∀ p ∈ B1, p.page ≤ m
  b2 : ∀ p ∈ B2, (m : Int) < p.page
  fl : (F1 ++ F2).length ≤ 1000 ∧ (B1 ++ B2).length ≤ 1000
  hW : 1 ≤ W ∧ W ≤ 6 ∧ 1 ≤ H ∧ H ≤ 6
  hP : 1 ≤ PW ∧ PW ≤ 1024 ∧ 1 ≤ PH ∧ PH ≤ 1024
theorem few_know (I : LayI) (Av : Option Addr) (cv : Nat) (l : List Step) (many : Int) (back : Bool) (w : World) (hI : Sv w (.slice Av l.length cv) l) (hz : impZ I.small l = 0) :
    ∃ (c r m PW PH W H : Nat) (F1 F2 B1 B2 : List Pla) (img : List (List UInt8) → List UInt8), I.C = c ∧ I.R = r ∧ c ≤ 8 ∧ r ≤ 8 ∧ (m : Int) = wi many 0 ((2 * (c * r) : Nat) : Int) ∧ m ≤ 2 * (c * r) ∧ wi I.W 1 6 = W ∧ wi I.H 1 6 = H ∧ FewK (.slice Av l.length cv) (I.small.val (.slice Av l.length cv)) (2 * (c * r)) m PW PH W H back w F1 F2 B1 B2 img := by
  obtain ⟨c, r, ec, er, hLB, ok, hpw, hph⟩ := impZ_zero (.slice Av l.length cv) hz
  have hlen := psOf_length hLB
  have eC : (I.small.lay l).C = c := by unfold LayI.lay; dsimp only; omega
  have eR : (I.small.lay l).R = r := by unfold LayI.lay; dsimp only; omega
  have c1 := ok.c1
  have r1 := ok.r1
  have c8 := hLB.good.c8
  have r8 := hLB.good.r8
  have hlw1 : 1 ≤ (I.small.lay l).lw ∧ 1 ≤ (I.small.lay l).lh := by
    have := ok.w1; have := ok.h1; have := ok.head0; have := ok.fore0; have := ok.spine0
    unfold Lay.lw Lay.lh Lay.fw Lay.fh; split <;> omega
  have hP0 : 1 ≤ (I.small.lay l).pw ∧ 1 ≤ (I.small.lay l).ph := by
    have a := Int.mul_le_mul_of_nonneg_right (show (1 : Int) ≤ (I.small.lay l).C by omega) (show 0 ≤ (I.small.lay l).lw by omega)
    have b := Int.mul_le_mul_of_nonneg_right (show (1 : Int) ≤ (I.small.lay l).R by omega) (show 0 ≤ (I.small.lay l).lh by omega)
    have := ok.margin0
    unfold Lay.pw Lay.ph Lay.sw Lay.sh; constructor <;> split <;> omega
  obtain ⟨PW, hPW⟩ := Int.eq_ofNat_of_zero_le (show 0 ≤ (I.small.lay l).pw by omega)
  obtain ⟨PH, hPH⟩ := Int.eq_ofNat_of_zero_le (show 0 ≤ (I.small.lay l).ph by omega)
  have ePW : (I.small.lay l).pw.toNat = PW := by rw [hPW]; exact Int.toNat_natCast _
  have ePH : (I.small.lay l).ph.toNat = PH := by rw [hPH]; exact Int.toNat_natCast _
  have hw1 := wi_lo I.W 1 6 (by omega)
  have hw2 := wi_hi I.W 1 6 (by omega)
  have hh1 := wi_lo I.H 1 6 (by omega)
  have hh2 := wi_hi I.H 1 6 (by omega)
  obtain ⟨W, hW⟩ := Int.eq_ofNat_of_zero_le (show 0 ≤ wi I.W 1 6 by omega)
  obtain ⟨H, hH⟩ := Int.eq_ofNat_of_zero_le (show 0 ≤ wi I.H 1 6 by omega)
  have eW : (I.small.lay l).W = W := hW
  have eH : (I.small.lay l).H = H := hH
  have hm1 := wi_lo many 0 ((2 * (c * r) : Nat) : Int) (by omega)
  have hm2 := wi_hi many 0 ((2 * (c * r) : Nat) : Int) (by omega)
  obtain ⟨m, hm⟩ := Int.eq_ofNat_of_zero_le hm1
  have hmN : m ≤ 2 * (c * r) := by omega
  have hps := psOf_pages hLB
  have hlN : (psOf (I.small.lay l) l).length = 2 * (c * r) := by rw [hlen, eC, eR]
  have eWn : (I.small.lay l).W.toNat = W := by rw [eW]; exact Int.toNat_natCast _
  have eHn : (I.small.lay l).H.toNat = H := by rw [eH]; exact Int.toNat_natCast _
  have hms : ∀ x ∈ (I.small.lay l).marksL, (I.small.lay l).MkIn x := fun x hx => Lay.marks_in ok.margin0 hLB.mg1 hlw1.1 hlw1.2 ok.c1 ok.r1 hx
  have hFs : (I.small.lay l).frontTo (psOf (I.small.lay l) l) (2 * (c * r)) = (I.small.lay l).frontTo (psOf (I.small.lay l) l) m ++ (I.small.lay l).famR (I.small.lay l).inF (psOf (I.small.lay l) l) m (2 * (c * r) - m) := by
    have := (I.small.lay l).fam_split (I.small.lay l).inF (psOf (I.small.lay l) l) m (2 * (c * r) - m)
    rw [Nat.add_sub_cancel' hmN] at this; exact this
  have hBs : (I.small.lay l).backTo (psOf (I.small.lay l) l) (2 * (c * r)) = (I.small.lay l).backTo (psOf (I.small.lay l) l) m ++ (I.small.lay l).famR (I.small.lay l).inB (psOf (I.small.lay l) l) m (2 * (c * r) - m) := by
    have := (I.small.lay l).fam_split (I.small.lay l).inB (psOf (I.small.lay l) l) m (2 * (c * r) - m)
    rw [Nat.add_sub_cancel' hmN] at this; exact this
  rw [eC] at c8
  rw [eR] at r8
  have hcr : c * r ≤ 64 := Nat.mul_le_mul c8 r8
  refine ⟨c, r, m, PW, PH, W, H, (I.small.lay l).frontTo (psOf (I.small.lay l) l) m, (I.small.lay l).famR (I.small.lay l).inF (psOf (I.small.lay l) l) m (2 * (c * r) - m), (I.small.lay l).backTo (psOf (I.small.lay l) l) m, (I.small.lay l).famR (I.small.lay l).inB (psOf (I.small.lay l) l) m (2 * (c * r) - m),
    fun pages => (I.small.lay l).pgs PW PH pages (imgM PW PH (I.small.lay l).marksL) (if back then (I.small.lay l).backTo (psOf (I.small.lay l) l) pages.length else (I.small.lay l).frontTo (psOf (I.small.lay l) l) pages.length), ec, er, c8, r8, hm.symm, hmN, hW, hH, ?_⟩
  refine ⟨fun w' hb => ?_, fun w' hb => ?_, fun w' vp vals pages hb hpg hk => ?_, fun pages hp hj => ?_, fun pages => pgs_length _ PW PH _ _ (by unfold imgM; exact imgP_length _ _) _, fun p hp => ((I.small.lay l).fam_pages (g := (I.small.lay l).inF) hp).2, fun p hp => ((I.small.lay l).famR_pages hp).1, fun p hp => ((I.small.lay l).fam_pages (g := (I.small.lay l).inB) hp).2, fun p hp => ((I.small.lay l).famR_pages hp).1, ?_, by omega, by omega⟩
  · have := sheet_any hz (2 * (c * r)) (by rw [hlN]; exact Nat.le_refl _) w' (SlM.later hI hb)
    rw [hPW, hPH, hFs, hBs] at this; exact this
  · have := sheet_any hz m (by rw [hlN]; exact hmN) w' (SlM.later hI hb)
    rw [hPW, hPH] at this; exact this
  · rw [layV_eq ec er]
    have := plate_ok hLB ok hpw hph w' (SlM.later hI hb) (fun w'' hb2 => by
      rw [← layV_eq ec er]
      have := impcheck_any I.small (.slice Av l.length cv) l w'' (SlM.later hI (hb.trans (hb2.mono hb.size)))
      rw [hz] at this; exact this) vp (fun _ => True) vals pages (by rw [eW, eH]; exact hpg) (by rw [hlN]; exact hk) back _ rfl
    rw [ePW, ePH, hPW, hPH] at this; exact this
  · have hz2 : ∀ i, i < 2 * (c * r) - m → pcN pages (m + i) = List.replicate ((I.small.lay l).W.toNat * (I.small.lay l).H.toNat) 0 := fun i hi => by
      rw [eWn, eHn]; exact hj (m + i) (by omega) (by omega)
    have h1 : ∀ i, i < m → pcN (pages.take m) i = pcN pages i := fun i hi => by
      unfold pcN; rw [List.getD_eq_getElem?_getD, List.getElem?_take_of_lt hi, ← List.getD_eq_getElem?_getD]
    have hl : (pages.take m).length = m := by rw [List.length_take, hp]; omega
    rw [hl, hp]
    cases back with
    | true =>
      have := few_plate ok hps (I.small.lay l).inB (fun p q s a b => by
        have e : ∀ p, (I.small.lay l).inB p = p.back := fun p => by unfold Lay.inB; rw [s]; simp
        rw [e] at a b; rw [a, b]) hms (PW := PW) (PH := PH) (m := m) (d := 2 * (c * r) - m) (by rw [hlN]; omega) (few := pages.take m) (all := pages) h1 hz2
      rw [Nat.add_sub_cancel' hmN] at this; exact this
    | false =>
      have := few_plate ok hps (I.small.lay l).inF (fun p q s a b => by
        have e : ∀ p, (I.small.lay l).inF p = !p.back := fun p => by unfold Lay.inF; rw [s]; rfl
        rw [e] at a b; revert a b; cases p.back <;> cases q.back <;> simp) hms (PW := PW) (PH := PH) (m := m) (d := 2 * (c * r) - m) (by rw [hlN]; omega) (few := pages.take m) (all := pages) h1 hz2
      rw [Nat.add_sub_cancel' hmN] at this; exact this
  · rw [← hFs, ← hBs]
    have := fam_front (I.small.lay l) (psOf (I.small.lay l) l) (2 * (c * r))
    have := fam_back (I.small.lay l) (psOf (I.small.lay l) l) (2 * (c * r))
    omega
/-- A row of equal bytes in a block that is known whole. -/
theorem sl_rep {w : World} {g n : Nat} {ok : Nat → Prop} {cs : Array Value} (hcs : cs = (List.replicate n (Value.int .u8 0)).toArray) (h : Blk w g 5 cs) (hn : n ≤ 2000000) (hok : ok g) : Sl w ok (.slice (some ⟨g, 0, none⟩) n n) (byts (List.replicate n 0)) := by
  refine ⟨_, n, ?_, by rw [byts_length, List.length_replicate]; exact Nat.le_refl _, by unfold maxLen; omega, fun _ => ⟨⟨g, 0, none⟩, rfl, hok, h.lt, fun k u hu => ?_⟩⟩
  · rw [byts_length, List.length_replicate]
  · rw [add_plain, Nat.zero_add, h.cell k, hcs]
    have e : byts (List.replicate n 0) = List.replicate n (Value.int .u8 0) := by unfold byts; rw [List.map_replicate]; rfl
    rw [e] at hu; rw [List.getElem?_toArray]; exact hu
/-- An empty plate, its pixels laid first. -/
theorem zp_a (wr : World) {cs : Array Value} {W H wh : Nat} (hcs : cs = (List.replicate wh (Value.int .u8 0)).toArray) (hn : wh ≤ 2000000) :
    Blk ((wr.alloc (Obj.cells cs 5)).alloc (Obj.cells #[.int .i64 (W : Int), .int .i64 (H : Int), .slice (some ⟨wr.heap.size, 0, none⟩) wh wh] 52)).drew (wr.heap.size + 1) 52 #[.int .i64 (W : Int), .int .i64 (H : Int), .slice (some ⟨wr.heap.size, 0, none⟩) wh wh] ∧
    Sl ((wr.alloc (Obj.cells cs 5)).alloc (Obj.cells #[.int .i64 (W : Int), .int .i64 (H : Int), .slice (some ⟨wr.heap.size, 0, none⟩) wh wh] 52)).drew (fun b => wr.heap.size ≤ b ∧ b ≠ wr.heap.size + 1) (.slice (some ⟨wr.heap.size, 0, none⟩) wh wh) (byts (List.replicate wh 0)) ∧ wr.heap.size ≤ wr.heap.size + 1 ∧
    Below wr.heap.size wr ((wr.alloc (Obj.cells cs 5)).alloc (Obj.cells #[.int .i64 (W : Int), .int .i64 (H : Int), .slice (some ⟨wr.heap.size, 0, none⟩) wh wh] 52)).drew := by
  refine ⟨?_, ?_, by omega, (((Below.refl _ _).alloc (Nat.le_refl _) _).alloc (by simp) _).drew⟩
  · have := (Blk.new (wr.alloc (Obj.cells cs 5)) 52 #[.int .i64 (W : Int), .int .i64 (H : Int), .slice (some ⟨wr.heap.size, 0, none⟩) wh wh]).drew
    rw [World.size_alloc] at this; exact this
  · exact sl_rep hcs (((Blk.new wr 5 cs).alloc _).drew) hn ⟨Nat.le_refl _, by omega⟩
theorem zp_b (wr : World) {cs : Array Value} {W H wh : Nat} (hcs : cs = (List.replicate wh (Value.int .u8 0)).toArray) (hn : wh ≤ 2000000) :
    Blk ((wr.alloc (Obj.cells #[.int .i64 (W : Int), .int .i64 (H : Int), .slice (some ⟨wr.heap.size + 1, 0, none⟩) wh wh] 52)).alloc (Obj.cells cs 5)).drew wr.heap.size 52 #[.int .i64 (W : Int), .int .i64 (H : Int), .slice (some ⟨wr.heap.size + 1, 0, none⟩) wh wh] ∧
    Sl ((wr.alloc (Obj.cells #[.int .i64 (W : Int), .int .i64 (H : Int), .slice (some ⟨wr.heap.size + 1, 0, none⟩) wh wh] 52)).alloc (Obj.cells cs 5)).drew (fun b => wr.heap.size ≤ b ∧ b ≠ wr.heap.size) (.slice (some ⟨wr.heap.size + 1, 0, none⟩) wh wh) (byts (List.replicate wh 0)) ∧ wr.heap.size ≤ wr.heap.size ∧
    Below wr.heap.size wr ((wr.alloc (Obj.cells #[.int .i64 (W : Int), .int .i64 (H : Int), .slice (some ⟨wr.heap.size + 1, 0, none⟩) wh wh] 52)).alloc (Obj.cells cs 5)).drew := by
  refine ⟨((Blk.new wr _ _).alloc _).drew, ?_, by omega, (((Below.refl _ _).alloc (Nat.le_refl _) _).alloc (by simp) _).drew⟩
  refine sl_rep hcs ?_ hn ⟨by omega, by omega⟩
  have := (Blk.new (wr.alloc (Obj.cells #[.int .i64 (W : Int), .int .i64 (H : Int), .slice (some ⟨wr.heap.size + 1, 0, none⟩) wh wh] 52)) 5 cs).drew
  rw [World.size_alloc] at this; exact this
/-- The rows at a later world, and a new plate's pixels lie apart from them. -/
theorem TwoR.off {base W H m : Nat} {wr wd : World} {vF vA v : Value} {vals : List Value} {pages : List (List UInt8)} {i : Nat} {xs : List Value} (h : TwoR base W H m wr vF vA vals pages i) (hb : Below wr.heap.size wr wd) (hs : Sl wd (fun b => wr.heap.size ≤ b) v xs) : TwoR base W H m wd vF vA vals pages i ∧ Sl wd (Off vF vA) v xs :=
  ⟨h.later hb, hs.mono fun _ _ hb => ⟨own_new h.me.oF hb, own_new h.me.oA hb⟩⟩
/-- A plate is stored into its box. -/
theorem plate_put {w9 wr wc : World} {b14 wh cp : Nat} {Ap : Option Addr} {W H : Int} {o0 o1 o2 : Value} {xs : List Value} (hp : Blk w9 b14 52 #[o0, o1, o2]) (hop : Sl w9 (fun b => wc.heap.size ≤ b) (.slice Ap wh cp) xs) (h1 : wr.heap.size ≤ b14) (h2 : b14 < wc.heap.size) (hb : Below wr.heap.size wr w9) :
    Blk (((w9.setCell ⟨b14, 0, none⟩ (.int .i64 W)).setCell ⟨b14, 1, none⟩ (.int .i64 H)).setCell ⟨b14, 2, none⟩ (.slice Ap wh cp)) b14 52 #[.int .i64 W, .int .i64 H, .slice Ap wh cp] ∧
    Sl (((w9.setCell ⟨b14, 0, none⟩ (.int .i64 W)).setCell ⟨b14, 1, none⟩ (.int .i64 H)).setCell ⟨b14, 2, none⟩ (.slice Ap wh cp)) (fun b => wr.heap.size ≤ b) (.slice Ap wh cp) xs ∧
    Below wr.heap.size wr (((w9.setCell ⟨b14, 0, none⟩ (.int .i64 W)).setCell ⟨b14, 1, none⟩ (.int .i64 H)).setCell ⟨b14, 2, none⟩ (.slice Ap wh cp)) := by
  refine ⟨?_, ?_, ((hb.setCell (p := ⟨b14, 0, none⟩) h1 _).setCell (p := ⟨b14, 1, none⟩) h1 _).setCell (p := ⟨b14, 2, none⟩) h1 _⟩
  · have := ((hp.put 0 (.int .i64 W)).put 1 (.int .i64 H)).put 2 (.slice Ap wh cp); simpa using this
  · exact (((hop.far (p := ⟨b14, 0, none⟩) (by show ¬ wc.heap.size ≤ b14; omega) _).far (p := ⟨b14, 1, none⟩) (by show ¬ wc.heap.size ≤ b14; omega) _).far (p := ⟨b14, 2, none⟩) (by show ¬ wc.heap.size ≤ b14; omega) _).mono fun b _ hb => by omega
/-- A slice of places that reads as a list, of some length at most. -/
def PlaIn (w0 : World) (v : Value) (l : List Pla) : Prop := (∃ ok, PlV w0 ok v l) ∧ l.length ≤ 1000
def PlaOwn (w0 w : World) (v : Value) (l : List Pla) : Prop := w.ownsRow w0.heap.size 36 4 v l.length (plcells l) ∧ l.length ≤ 1000
def PlaAt (w : World) (v : Value) (l : List Pla) : Prop := PlV w (fun _ => True) v l
def Late (m : Nat) (l l1 : List Pla) : Prop := ∃ l2, l = l1 ++ l2 ∧ (∀ p ∈ l1, p.page ≤ m) ∧ ∀ p ∈ l2, (m : Int) < p.page
/-- The calls of the law's last line, each in a world behind w0. -/
structure EndK (w0 : World) (B m : Nat) : Prop where
  cl : ∀ v l w', PlaIn w0 v l → Below w0.heap.size w0 w' → Calls Try.prog 25 #[v] w' fun e w'' => ∃ v', e = .returned v' ∧ PlaOwn w0 w'' v' l ∧ Below w0.heap.size w0 w''
  de : ∀ v l l1 w', PlaOwn w0 w' v l → Late m l l1 → Below w0.heap.size w0 w' → Calls Try.prog 24 #[v, .func (.func 21) #[] #[.pointer (some ⟨B, 0, none⟩)]] w' fun e w'' => ∃ v', e = .returned v' ∧ PlaAt w'' v' l1 ∧ Below w0.heap.size w0 w''
  eq : ∀ va vb l w', PlaIn w0 va l → PlaAt w' vb l → Below w0.heap.size w0 w' → Calls Try.prog 23 #[va, vb] w' fun e w'' => e = .returned (.bool true) ∧ Below w0.heap.size w0 w''
theorem end_know (w0 : World) (B m : Nat) (hm : Blk w0 B 3 #[.int .i64 (m : Int)]) : EndK w0 B m where
  cl := fun v l w' ⟨⟨ok, h⟩, hn⟩ hb => (clone_pla v l ok w' (SlM.later h hb) (by omega)).mono fun e w'' ⟨v', he, ho, hb2⟩ => ⟨v', he, ⟨own_base ho hb.size, hn⟩, hb.trans (hb2.mono hb.size)⟩
  de := fun v l l1 w' ⟨ho, hn⟩ ⟨l2, hl, h1, h2⟩ hb => by
    subst hl
    exact delete_any v l1 l2 w0.heap.size B m w0 w' ho hb hb.size ((hm.below hb hm.lt).cell 0) hm.lt h1 h2 (by omega) 
  eq := fun va vb l w' ⟨⟨ok, h⟩, hn⟩ ha hb => (equal_pla va vb l ok (fun _ => True) w' (SlM.later h hb) ha (by omega)).mono fun e w'' ⟨he, hb2⟩ => ⟨he, hb.trans (hb2.mono hb.size)⟩
end Go.Proofs.Ytjcijogdcafloaa
