/- The walk of tiny: a layout brought to small pages. -/
import Derived.Test.YtjcijogdcafloaaOpenLay
import Derived.Test.YtjcijogdcafloaaWithin
import Derived.StillTailTactics
namespace Go.Proofs.Ytjcijogdcafloaa
open Go.RowKit
/-- A layout of small pages. -/
def LayI.small (I : LayI) : LayI := ⟨I.C, I.R, wi I.W 1 6, wi I.H 1 6, wi I.head 0 2, wi I.fore 0 2, wi I.spine 0 12, wi I.margin 0 4, I.creep, I.style⟩
set_option maxRecDepth 100000 in
set_option maxHeartbeats 8000000 in
theorem tiny_any (I : LayI) (Av : Option Addr) (n cv : Nat) (w : World) :
    Calls Try.prog 16 #[I.val (.slice Av n cv)] w fun e w' => e = .returned (I.small.val (.slice Av n cv)) ∧ Below w.heap.size w w' := by
  have HW : Hid (∀ (a lo hi : Int) (w : World), 0 ≤ lo → lo ≤ hi → hi < 4611686018427387904 → Calls Try.prog 19 #[.int .i64 a, .int .i64 lo, .int .i64 hi] w fun e w' => e = .returned (.int .i64 (wi a lo hi)) ∧ w = w') := fun a lo hi w h0 h1 h2 => within_any a lo hi w h0 h1 h2
  unfold LayI.small LayI.val
  obtain ⟨C, R, W, H, hd, fo, sp, mg, cr, sty⟩ := I
  dsimp only
  generalize hW : wi W 1 6 = W'
  generalize hH : wi H 1 6 = H'
  generalize h1 : wi hd 0 2 = hd'
  generalize h2 : wi fo 0 2 = fo'
  generalize h3 : wi sp 0 12 = sp'
  generalize h4 : wi mg 0 4 = mg'
  have HW1 : Hid (∀ w, Calls Try.prog 19 #[.int .i64 W, .int .i64 1, .int .i64 6] w fun e w' => e = .returned (.int .i64 W') ∧ w = w') := fun w => hW ▸ HW.out W 1 6 w (by omega) (by omega) (by omega)
  have HW2 : Hid (∀ w, Calls Try.prog 19 #[.int .i64 H, .int .i64 1, .int .i64 6] w fun e w' => e = .returned (.int .i64 H') ∧ w = w') := fun w => hH ▸ HW.out H 1 6 w (by omega) (by omega) (by omega)
  have HW3 : Hid (∀ w, Calls Try.prog 19 #[.int .i64 hd, .int .i64 0, .int .i64 2] w fun e w' => e = .returned (.int .i64 hd') ∧ w = w') := fun w => h1 ▸ HW.out hd 0 2 w (by omega) (by omega) (by omega)
  have HW4 : Hid (∀ w, Calls Try.prog 19 #[.int .i64 fo, .int .i64 0, .int .i64 2] w fun e w' => e = .returned (.int .i64 fo') ∧ w = w') := fun w => h2 ▸ HW.out fo 0 2 w (by omega) (by omega) (by omega)
  have HW5 : Hid (∀ w, Calls Try.prog 19 #[.int .i64 sp, .int .i64 0, .int .i64 12] w fun e w' => e = .returned (.int .i64 sp') ∧ w = w') := fun w => h3 ▸ HW.out sp 0 12 w (by omega) (by omega) (by omega)
  have HW6 : Hid (∀ w, Calls Try.prog 19 #[.int .i64 mg, .int .i64 0, .int .i64 4] w fun e w' => e = .returned (.int .i64 mg') ∧ w = w') := fun w => h4 ▸ HW.out mg 0 4 w (by omega) (by omega) (by omega)
  clear hW hH h1 h2 h3 h4 HW
  go_enter Try.func16, Try.ntmps16
  go_wp2
  have b1 := (Blk.new w 26 #[.int .i64 C, .int .i64 R, .slice Av n cv, .int .i64 W, .int .i64 H, .int .i64 hd, .int .i64 fo, .int .i64 sp, .int .i64 mg, .int .i64 cr, .int .i64 sty]).alloc (Obj.cells #[.int .i64 0, .int .i64 0, .slice none 0 0, .int .i64 0, .int .i64 0, .int .i64 0, .int .i64 0, .int .i64 0, .int .i64 0, .int .i64 0, .int .i64 0] 26)
  have b2 := Blk.new (w.alloc (Obj.cells #[.int .i64 C, .int .i64 R, .slice Av n cv, .int .i64 W, .int .i64 H, .int .i64 hd, .int .i64 fo, .int .i64 sp, .int .i64 mg, .int .i64 cr, .int .i64 sty] 26)) 26 #[.int .i64 0, .int .i64 0, .slice none 0 0, .int .i64 0, .int .i64 0, .int .i64 0, .int .i64 0, .int .i64 0, .int .i64 0, .int .i64 0, .int .i64 0]
  have b0 := ((Below.refl w.heap.size w).alloc (Nat.le_refl _) (Obj.cells #[.int .i64 C, .int .i64 R, .slice Av n cv, .int .i64 W, .int .i64 H, .int .i64 hd, .int .i64 fo, .int .i64 sp, .int .i64 mg, .int .i64 cr, .int .i64 sty] 26)).alloc (by simp) (Obj.cells #[.int .i64 0, .int .i64 0, .slice none 0 0, .int .i64 0, .int .i64 0, .int .i64 0, .int .i64 0, .int .i64 0, .int .i64 0, .int .i64 0, .int .i64 0] 26)
  rw [World.size_alloc] at b2
  generalize (w.alloc (Obj.cells #[.int .i64 C, .int .i64 R, .slice Av n cv, .int .i64 W, .int .i64 H, .int .i64 hd, .int .i64 fo, .int .i64 sp, .int .i64 mg, .int .i64 cr, .int .i64 sty] 26)).alloc (Obj.cells #[.int .i64 0, .int .i64 0, .slice none 0 0, .int .i64 0, .int .i64 0, .int .i64 0, .int .i64 0, .int .i64 0, .int .i64 0, .int .i64 0, .int .i64 0] 26) = w2 at *
  have B1 := Lib.hid b1
  have B2 := Lib.hid b2
  have B0 := Lib.hid b0
  have c3 := b1.cell 3
  have c4 := b1.cell 4
  simp only [List.getElem?_toArray, List.getElem?_cons_zero, List.getElem?_cons_succ] at c3 c4
  have f3 := b1.frozen 3
  have f4 := b1.frozen 4
  have l1 := b1.lt
  clear b1 b2 b0
  go_still_tail 7, (by kernel_rfl)
  still_call ((HW1.out _).mono fun _ _ h => ⟨h.1, h.2.symm⟩)
  repeat still_step
  still_call ((HW2.out _).mono fun _ _ h => ⟨h.1, h.2.symm⟩)
  repeat still_step
  refine wpStill_nil ?_
  change wpList _ _ _ _ _ w2.drew
  have b1 : Blk ((w2.setCell ⟨w.heap.size, 3, none⟩ (.int .i64 W')).setCell ⟨w.heap.size, 4, none⟩ (.int .i64 H')).drew w.heap.size 26 #[.int .i64 C, .int .i64 R, .slice Av n cv, .int .i64 W', .int .i64 H', .int .i64 hd, .int .i64 fo, .int .i64 sp, .int .i64 mg, .int .i64 cr, .int .i64 sty] := by
    have := ((B1.out.put 3 (.int .i64 W')).put 4 (.int .i64 H')).drew
    simpa using this
  have b2 : Blk ((w2.setCell ⟨w.heap.size, 3, none⟩ (.int .i64 W')).setCell ⟨w.heap.size, 4, none⟩ (.int .i64 H')).drew (w.heap.size + 1) 26 #[.int .i64 0, .int .i64 0, .slice none 0 0, .int .i64 0, .int .i64 0, .int .i64 0, .int .i64 0, .int .i64 0, .int .i64 0, .int .i64 0, .int .i64 0] := ((B2.out.far (p := ⟨w.heap.size, 3, none⟩) (by simp) _).far (p := ⟨w.heap.size, 4, none⟩) (by simp) _).drew
  have b0 : Below w.heap.size w ((w2.setCell ⟨w.heap.size, 3, none⟩ (.int .i64 W')).setCell ⟨w.heap.size, 4, none⟩ (.int .i64 H')).drew := ((B0.out.setCell (p := ⟨w.heap.size, 3, none⟩) (Nat.le_refl _) _).setCell (p := ⟨w.heap.size, 4, none⟩) (Nat.le_refl _) _).drew
  have C1 := Lib.hid b1
  have C2 := Lib.hid b2
  have C0 := Lib.hid b0
  clear b1 b2 b0
  go_wp2
  clear c3 c4 f3 f4 l1
  generalize ((w2.setCell ⟨w.heap.size, 3, none⟩ (.int .i64 W')).setCell ⟨w.heap.size, 4, none⟩ (.int .i64 H')).drew = w3 at *
  have c5 := C1.out.cell 5
  have c6 := C1.out.cell 6
  have c7 := C1.out.cell 7
  have c8 := C1.out.cell 8
  simp only [List.getElem?_toArray, List.getElem?_cons_zero, List.getElem?_cons_succ] at c5 c6 c7 c8
  have f5 := C1.out.frozen 5
  have f6 := C1.out.frozen 6
  have f7 := C1.out.frozen 7
  have f8 := C1.out.frozen 8
  have l1 := C1.out.lt
  go_still_tail 13, (by kernel_rfl)
  still_call ((HW3.out _).mono fun _ _ h => ⟨h.1, h.2.symm⟩)
  repeat still_step
  still_call ((HW4.out _).mono fun _ _ h => ⟨h.1, h.2.symm⟩)
  repeat still_step
  still_call ((HW6.out _).mono fun _ _ h => ⟨h.1, h.2.symm⟩)
  repeat still_step
  still_call ((HW5.out _).mono fun _ _ h => ⟨h.1, h.2.symm⟩)
  repeat still_step
  refine wpStill_nil ?_
  change wpList _ _ _ _ _ w3.drew
  have b1 : Blk ((((w3.setCell ⟨w.heap.size, 5, none⟩ (.int .i64 hd')).setCell ⟨w.heap.size, 6, none⟩ (.int .i64 fo')).setCell ⟨w.heap.size, 8, none⟩ (.int .i64 mg')).setCell ⟨w.heap.size, 7, none⟩ (.int .i64 sp')).drew w.heap.size 26 #[.int .i64 C, .int .i64 R, .slice Av n cv, .int .i64 W', .int .i64 H', .int .i64 hd', .int .i64 fo', .int .i64 sp', .int .i64 mg', .int .i64 cr, .int .i64 sty] := by
    have := ((((C1.out.put 5 (.int .i64 hd')).put 6 (.int .i64 fo')).put 8 (.int .i64 mg')).put 7 (.int .i64 sp')).drew
    simpa using this
  have b2 : Blk ((((w3.setCell ⟨w.heap.size, 5, none⟩ (.int .i64 hd')).setCell ⟨w.heap.size, 6, none⟩ (.int .i64 fo')).setCell ⟨w.heap.size, 8, none⟩ (.int .i64 mg')).setCell ⟨w.heap.size, 7, none⟩ (.int .i64 sp')).drew (w.heap.size + 1) 26 #[.int .i64 0, .int .i64 0, .slice none 0 0, .int .i64 0, .int .i64 0, .int .i64 0, .int .i64 0, .int .i64 0, .int .i64 0, .int .i64 0, .int .i64 0] := ((((C2.out.far (p := ⟨w.heap.size, 5, none⟩) (by simp) _).far (p := ⟨w.heap.size, 6, none⟩) (by simp) _).far (p := ⟨w.heap.size, 8, none⟩) (by simp) _).far (p := ⟨w.heap.size, 7, none⟩) (by simp) _).drew
  have b0 : Below w.heap.size w ((((w3.setCell ⟨w.heap.size, 5, none⟩ (.int .i64 hd')).setCell ⟨w.heap.size, 6, none⟩ (.int .i64 fo')).setCell ⟨w.heap.size, 8, none⟩ (.int .i64 mg')).setCell ⟨w.heap.size, 7, none⟩ (.int .i64 sp')).drew := ((((C0.out.setCell (p := ⟨w.heap.size, 5, none⟩) (Nat.le_refl _) _).setCell (p := ⟨w.heap.size, 6, none⟩) (Nat.le_refl _) _).setCell (p := ⟨w.heap.size, 8, none⟩) (Nat.le_refl _) _).setCell (p := ⟨w.heap.size, 7, none⟩) (Nat.le_refl _) _).drew
  have D1 := Lib.hid b1
  have D2 := Lib.hid b2
  have D0 := Lib.hid b0
  clear b1 b2 b0
  have c0 := C1.out.cell 0
  have c1 := C1.out.cell 1
  have c2 := C1.out.cell 2
  have c3 := C1.out.cell 3
  have c4 := C1.out.cell 4
  have c9 := C1.out.cell 9
  have c10 := C1.out.cell 10
  simp only [List.getElem?_toArray, List.getElem?_cons_zero, List.getElem?_cons_succ] at c0 c1 c2 c3 c4 c9 c10
  have e0 := C2.out.cell 0
  have e1 := C2.out.cell 1
  have e2 := C2.out.cell 2
  have e3 := C2.out.cell 3
  have e4 := C2.out.cell 4
  have e5 := C2.out.cell 5
  have e6 := C2.out.cell 6
  have e7 := C2.out.cell 7
  have e8 := C2.out.cell 8
  have e9 := C2.out.cell 9
  have e10 := C2.out.cell 10
  simp only [List.getElem?_toArray, List.getElem?_cons_zero, List.getElem?_cons_succ] at e0 e1 e2 e3 e4 e5 e6 e7 e8 e9 e10
  have g0 := C2.out.frozen 0
  have g1 := C2.out.frozen 1
  have g2 := C2.out.frozen 2
  have g3 := C2.out.frozen 3
  have g4 := C2.out.frozen 4
  have g5 := C2.out.frozen 5
  have g6 := C2.out.frozen 6
  have g7 := C2.out.frozen 7
  have g8 := C2.out.frozen 8
  have g9 := C2.out.frozen 9
  have g10 := C2.out.frozen 10
  have l2 := C2.out.lt
  go_wp2
  refine bodyPost_ret (v := .agg #[.int .i64 C, .int .i64 R, .slice Av n cv, .int .i64 W', .int .i64 H', .int .i64 hd', .int .i64 fo', .int .i64 sp', .int .i64 mg', .int .i64 cr, .int .i64 sty]) (by simp [results, Try.results16, go_sem, e0, e1, e2, e3, e4, e5, e6, e7, e8, e9, e10, World.cell?_setCell_other, World.cell?_setCell_same]) rfl ⟨rfl, ?_⟩
  have st : ∀ (U : World) (g o : Nat) (u : Value), w.heap.size ≤ g → Below w.heap.size w U → Below w.heap.size w (U.setCell ⟨g, o, none⟩ u) := fun U g o u hg h => h.setCell (by show w.heap.size ≤ g; exact hg) u
  have dr : ∀ U : World, Below w.heap.size w U → Below w.heap.size w U.drew := fun U h => h.drew
  have HC := C0.out
  with_reducible
    repeat (first | exact HC | apply dr | (apply st; omega))
end Go.Proofs.Ytjcijogdcafloaa
