/- The walk of place. -/
import Derived.Deep.QuietTactic
import Derived.BigQuiet
import Derived.IntWalk
import Derived.Test.YtjcijogdcafloaaImpB
import Derived.Deep.DeepCutAuto
namespace Go.Proofs.Ytjcijogdcafloaa
open Go.RowKit
theorem layV_eq {I : LayI} {l : List Step} {v : Value} {c r : Nat} (ec : I.C = c) (er : I.R = r) : I.val v = layV (I.lay l) v := by
  have e1 : (I.lay l).C = c := by unfold LayI.lay; dsimp only; omega
  have e2 : (I.lay l).R = r := by unfold LayI.lay; dsimp only; omega
  unfold layV LayI.val; rw [e1, e2, ← ec, ← er]; rfl
theorem placeB_bound {L : Lay} {v : Value} {l : List Step} (h : LB L v l) (ok : L.Ok) {i : Nat} (hi : i < 2 * (L.C * L.R)) {p : Pg} (hp : (p.turn % 2 == 1) = L.odd) (hc : p.col < L.C) (hr : p.row < L.R) :
    bxIn (L.placeB i p) 10000 ∧ bxIn (L.box0 i) 1000 ∧ bxIn (L.boxT i p) 1000 := by
  obtain ⟨x0, x1, y0, y1⟩ := placeB_frame ok hi hp hc hr
  obtain ⟨_, _, _, _, bw, bh, w1, h1⟩ := placeB_in ok hi hp
  obtain ⟨z0, z1, z2, z3⟩ := lay_sizes h
  obtain ⟨m0, m1⟩ := mul_bound h.good.c8 z0 z1
  obtain ⟨m2, m3⟩ := mul_bound h.good.r8 z2 z3
  have g0 := h.mg0
  have g1 := h.mg1
  have hw : L.placeB i p = ⟨L.sw, L.sh, (L.placeB i p).x, (L.placeB i p).y, (L.placeB i p).w, (L.placeB i p).h⟩ := rfl
  have hsw : L.sw = 2 * L.margin + L.C * L.lw := rfl
  have hsh : L.sh = 2 * L.margin + L.R * L.lh := rfl
  have a1 := h.w1
  have a2 := h.w2
  have a3 := h.h1
  have a4 := h.h2
  have a5 := h.hd0
  have a6 := h.hd1
  have a7 := h.fo0
  have a8 := h.fo1
  have a9 := h.sp0
  have a10 := h.sp1
  refine ⟨?_, ?_, ?_⟩
  · rw [hw]; unfold bxIn; dsimp only; omega
  · obtain ⟨i0, i1⟩ := inner_range ok hi
    unfold bxIn Lay.box0 Lay.fw Lay.fh; dsimp only; split <;> omega
  · obtain ⟨f1, f2, b1, b2, b3, b4, b5, b6⟩ := boxT_in ok hi p.turn
    have k1 : 1 ≤ L.bw p.turn ∧ 1 ≤ L.bh p.turn := by unfold Lay.bw Lay.bh; split <;> omega
    have k2 : (L.boxT i p).fw ≤ 1000 ∧ (L.boxT i p).fh ≤ 1000 := by
      unfold Lay.boxT; rw [f1, f2]; unfold Lay.fw Lay.fh; split <;> omega
    unfold Lay.boxT at k2 ⊢
    unfold bxIn; omega
def PlacePostI (b : Bx6) (w : World) (e : Ending) (w' : World) : Prop := e = .returned (bxV b) ∧ Below w.heap.size w w'
set_option maxRecDepth 100000 in
set_option maxHeartbeats 8000000 in
theorem place_imp {L : Lay} {v : Value} {l : List Step} (h : LB L v l) (ok : L.Ok) (i : Nat) (hi : i < 2 * (L.C * L.R)) (p : Pg) (hp : (p.turn % 2 == 1) = L.odd) (hc : p.col < L.C) (hr : p.row < L.R) (ht : p.turn < 4) (w : World) (hI : Sv w v l) :
    Calls Try.prog 35 #[layV L v, .int .i64 ((i : Int) + 1), .agg #[.bool p.back, .int .i64 (p.col : Int), .int .i64 (p.row : Int), .int .i64 (p.turn : Int)]] w (PlacePostI (L.placeB i p) w) := by
  have HI := Lib.hid hI
  have HLf : Hid (∀ w', Below w.heap.size w w' → Calls Try.prog 37 #[layV L v] w' fun e w'' => e = .returned (.tuple #[.int .i64 L.lw, .int .i64 L.lh]) ∧ Below w'.heap.size w' w'') := fun w' hb => leaf_any h w' (SlM.later HI.out hb)
  have HSg : Hid (∀ w', Below w.heap.size w w' → Calls Try.prog 38 #[layV L v] w' fun e w'' => e = .returned (.tuple #[.int .i64 L.sw, .int .i64 L.sh]) ∧ Below w'.heap.size w' w'') := fun w' hb => single_any h w' (SlM.later HI.out hb)
  obtain ⟨q1, q2, q3⟩ := placeB_bound h ok hi hp hc hr
  have HTu : Hid (∀ w', Calls Try.prog 36 #[bxV (L.box0 i), .int .i64 (p.turn : Int)] w' fun e w'' => e = .returned (bxV (L.boxT i p)) ∧ Below w'.heap.size w' w'') := fun w' => turned_any (L.box0 i) p.turn w' (by omega) (by unfold bxIn at q2 ⊢; omega)
  have hn32 : L.C * L.R ≤ 32 := ok.cr
  have HDe : Hid (∀ w', Calls Try.prog 54 #[.int .i64 ((i / 2 : Nat) : Int), .int .i64 ((L.C * L.R : Nat) : Int)] w' fun e w'' => e = .returned (.int .i64 (L.dep i : Int)) ∧ w'' = w') := fun w' => (depth_any (i / 2) (L.C * L.R) w' (by omega) (by omega)).mono fun _ _ h => ⟨h.1, h.2.symm⟩
  have hdep : L.dep i ≤ 32 := by have := dep_le ok hi; omega
  obtain ⟨inn0, inn1⟩ := inner_range ok hi
  obtain ⟨Av, cv, ev⟩ := SlM.form hI
  obtain ⟨z0, z1, z2, z3⟩ := lay_sizes h
  have HP : Hid (∀ e w', PlacePostI (L.placeB i p) w e w' = (e = .returned (bxV (L.placeB i p)) ∧ Below w.heap.size w w')) := fun _ _ => rfl
  have HV : Hid (∀ c : Bx6, bxV c = .agg #[.int .i64 c.fw, .int .i64 c.fh, .int .i64 c.x, .int .i64 c.y, .int .i64 c.w, .int .i64 c.h]) := fun _ => rfl
  have HB0 : Hid (L.box0 i = ⟨L.W + L.fore + L.spine, L.H + 2 * L.head, if i % 2 = 1 then L.W + L.fore + L.spine - L.inner i - L.W else L.inner i, L.head, L.W, L.H⟩) := rfl
  have HIn : Hid (L.inner i = L.spine - L.creep * (L.dep i : Int)) := rfl
  have HPb : Hid (L.placeB i p = ⟨L.sw, L.sh, L.margin + p.col * L.lw + (L.boxT i p).x, L.margin + p.row * L.lh + (L.boxT i p).y, (L.boxT i p).w, (L.boxT i p).h⟩) := rfl
  have mc := mul_bound (a := p.col) (by have := h.good.c8; omega) z0 z1
  have mr := mul_bound (a := p.row) (by have := h.good.r8; omega) z2 z3
  obtain ⟨mc0, mc1⟩ := mc
  obtain ⟨mr0, mr1⟩ := mr
  have w1 := h.w1
  have w2 := h.w2
  have h1 := h.h1
  have h2 := h.h2
  have d0 := h.hd0
  have d1 := h.hd1
  have f0 := h.fo0
  have f1 := h.fo1
  have s0 := h.sp0
  have s1 := h.sp1
  have g0 := h.mg0
  have g1 := h.mg1
  have r0 := h.cr0
  have r1 := h.cr1
  have hsp : L.creep * (L.dep i : Int) = L.spine - L.inner i := by rw [HIn.out]; omega
  generalize PlacePostI (L.placeB i p) w = Post at *
  generalize L.placeB i p = pb at *
  generalize L.boxT i p = bt at *
  generalize L.dep i = dp at *
  generalize L.inner i = inn at *
  generalize L.sw = sw at *
  generalize L.sh = sh at *
  generalize L.lw = lw at *
  generalize L.lh = lh at *
  generalize L.box0 i = bz at *
  unfold layV at *
  clear h ok hI
  obtain ⟨C, R, W, H, hd, fo, sp, mg, cr, sty, od⟩ := L
  obtain ⟨pk, pc, pr, pt⟩ := p
  dsimp only at *
  have hmul : (C : Int) * (R : Int) = ((C * R : Nat) : Int) := by simp
  generalize C * R = m at *
  generalize hcl : (pc : Int) * lw = cl at *
  generalize hrl : (pr : Int) * lh = rl at *
  subst ev
  generalize l.length = n at *
  have HI2 : Hid ((i : Int).tdiv 2 = ((i / 2 : Nat) : Int) ∧ i / 2 < 100) := ⟨by rw [Int.tdiv_eq_ediv_of_nonneg (by omega)]; omega, by omega⟩
  have hb0 := Lib.hid ((((Below.refl w.heap.size w).alloc (Nat.le_refl _) (Obj.cells #[.int .i64 (C : Int), .int .i64 (R : Int), .slice Av n cv, .int .i64 W, .int .i64 H, .int .i64 hd, .int .i64 fo, .int .i64 sp, .int .i64 mg, .int .i64 cr, .int .i64 sty] 26)).alloc (by simp) (Obj.cells #[.bool pk, .int .i64 (pc : Int), .int .i64 (pr : Int), .int .i64 (pt : Int)] 86)).alloc (by simp; omega) (Obj.cells #[.int .i64 0, .int .i64 0, .int .i64 0, .int .i64 0, .int .i64 0, .int .i64 0] 88))
  go_enter Try.func35, Try.ntmps35
  go_wp2_with fail
  refine (HLf.out _ hb0.out).mono ?_; rintro e w3 ⟨rfl, hb1⟩
  have k0 := (((Blk.new w 26 #[.int .i64 (C : Int), .int .i64 (R : Int), .slice Av n cv, .int .i64 W, .int .i64 H, .int .i64 hd, .int .i64 fo, .int .i64 sp, .int .i64 mg, .int .i64 cr, .int .i64 sty]).alloc (Obj.cells #[.bool pk, .int .i64 (pc : Int), .int .i64 (pr : Int), .int .i64 (pt : Int)] 86)).alloc (Obj.cells #[.int .i64 0, .int .i64 0, .int .i64 0, .int .i64 0, .int .i64 0, .int .i64 0] 88)).below hb1 (by simp; omega)
  have k1 := ((Blk.new (w.alloc (Obj.cells #[.int .i64 (C : Int), .int .i64 (R : Int), .slice Av n cv, .int .i64 W, .int .i64 H, .int .i64 hd, .int .i64 fo, .int .i64 sp, .int .i64 mg, .int .i64 cr, .int .i64 sty] 26)) 86 #[.bool pk, .int .i64 (pc : Int), .int .i64 (pr : Int), .int .i64 (pt : Int)]).alloc (Obj.cells #[.int .i64 0, .int .i64 0, .int .i64 0, .int .i64 0, .int .i64 0, .int .i64 0] 88)).below hb1 (by simp)
  have k2 := (Blk.new ((w.alloc (Obj.cells #[.int .i64 (C : Int), .int .i64 (R : Int), .slice Av n cv, .int .i64 W, .int .i64 H, .int .i64 hd, .int .i64 fo, .int .i64 sp, .int .i64 mg, .int .i64 cr, .int .i64 sty] 26)).alloc (Obj.cells #[.bool pk, .int .i64 (pc : Int), .int .i64 (pr : Int), .int .i64 (pt : Int)] 86)) 88 #[.int .i64 0, .int .i64 0, .int .i64 0, .int .i64 0, .int .i64 0, .int .i64 0]).below hb1 (by simp)
  simp only [World.size_alloc] at k1 k2
  have HB3 := Lib.hid (hb0.out.trans (hb1.mono hb0.out.size))
  have HK0 := Lib.hid k0
  have HK1 := Lib.hid k1
  have HK2 := Lib.hid k2
  have c0 := k0.cell 0
  have c1 := k0.cell 1
  have c3 := k0.cell 3
  have c4 := k0.cell 4
  have c5 := k0.cell 5
  have c6 := k0.cell 6
  have c7 := k0.cell 7
  have c9 := k0.cell 9
  simp only [List.getElem?_toArray, List.getElem?_cons_zero, List.getElem?_cons_succ] at c0 c1 c3 c4 c5 c6 c7 c9
  have l0 := k0.lt
  clear hb1 k0 k1 k2
  obtain ⟨x2, x3⟩ := HI2.out
  have HDe2 := HDe
  generalize hj2 : i / 2 = i2 at *
  clear hj2
  have y1 : IntKind.i64.wrap (i : Int) = (i : Int) := IntWalk.i64_in _ (by omega)
  have y2 : IntKind.i64.wrap (i2 : Int) = (i2 : Int) := IntWalk.i64_in _ (by omega)
  have y3 : IntKind.i64.wrap (m : Int) = (m : Int) := IntWalk.i64_in _ (by omega)
  have y4 : IntKind.i64.wrap (sp - inn) = sp - inn := IntWalk.i64_in _ (by omega)
  have y5 : IntKind.i64.wrap (sp - (sp - inn)) = inn := by rw [IntWalk.i64_in _ (by omega)]; omega
  have y6 : (i : Int) + 1 - 1 = (i : Int) := by omega
  go_wp2
  go_quiet ((go_at_call 54; with_reducible exact Calls.quiet_of_same (HDe2.out _)))
  clear y1 y2 y3 y4 y5 y6 x2 hmul hsp c0 c1 c3 c4 c5 c6 c7 c9 l0
  have b0 := HK0.out.drewN nq
  have b1 := HK1.out.drewN nq
  have b2 := HK2.out.drewN nq
  have b3 := below_drewN HB3.out nq
  generalize w3.drewN nq = w5 at *
  have HB5 := Lib.hid b3
  have hz5 := b3.size
  have HL0 := Lib.hid b0
  have HL1 := Lib.hid b1
  have HL2 := Lib.hid b2
  have c3 := b0.cell 3
  have c4 := b0.cell 4
  have c5 := b0.cell 5
  have c6 := b0.cell 6
  have c7 := b0.cell 7
  simp only [List.getElem?_toArray, List.getElem?_cons_zero, List.getElem?_cons_succ] at c3 c4 c5 c6 c7
  have z4 := b1.cell 3
  simp only [List.getElem?_toArray, List.getElem?_cons_zero, List.getElem?_cons_succ] at z4
  have l0 := b0.lt
  have l1 := b1.lt
  have l2 := b2.lt
  clear b0 b1 b2 b3 HK0 HK1 HK2 HB3
  by_cases hpar : i % 2 = 1
  · have HTu2 : Hid (∀ w', Calls Try.prog 36 #[.agg #[.int .i64 (W + fo + sp), .int .i64 (H + 2 * hd), .int .i64 (W + fo + sp - inn - W), .int .i64 hd, .int .i64 W, .int .i64 H], .int .i64 (pt : Int)] w' fun e w'' => e = .returned (.agg #[.int .i64 bt.fw, .int .i64 bt.fh, .int .i64 bt.x, .int .i64 bt.y, .int .i64 bt.w, .int .i64 bt.h]) ∧ Below w'.heap.size w' w'') := fun w' => by
      have h := HTu.out w'
      rw [HB0.out, if_pos hpar, HV.out, HV.out] at h
      exact h
    have hm : ((i : Int) + 1) % 2 = 0 := by omega
    clear HTu HB0
    go_wp2_with fail
    refine (HTu2.out _).mono ?_; rintro e w6 ⟨rfl, hb6⟩
    have e0 := (HL0.out.alloc (Obj.cells #[.int .i64 (W + fo + sp), .int .i64 (H + 2 * hd), .int .i64 (W + fo + sp - inn - W), .int .i64 hd, .int .i64 W, .int .i64 H] 88)).below hb6 (by simp; omega)
    have e1 := (HL1.out.alloc (Obj.cells #[.int .i64 (W + fo + sp), .int .i64 (H + 2 * hd), .int .i64 (W + fo + sp - inn - W), .int .i64 hd, .int .i64 W, .int .i64 H] 88)).below hb6 (by simp; omega)
    have e2 := (HL2.out.alloc (Obj.cells #[.int .i64 (W + fo + sp), .int .i64 (H + 2 * hd), .int .i64 (W + fo + sp - inn - W), .int .i64 hd, .int .i64 W, .int .i64 H] 88)).below hb6 (by simp; omega)
    have e3 := (Blk.new w5 88 #[.int .i64 (W + fo + sp), .int .i64 (H + 2 * hd), .int .i64 (W + fo + sp - inn - W), .int .i64 hd, .int .i64 W, .int .i64 H]).below hb6 (by simp)
    have HB6 := Lib.hid ((HB5.out.alloc HB5.out.size (Obj.cells #[.int .i64 (W + fo + sp), .int .i64 (H + 2 * hd), .int .i64 (W + fo + sp - inn - W), .int .i64 hd, .int .i64 W, .int .i64 H] 88)).trans (hb6.mono (by simp; omega)))
    have v0 := e3.cell 0
    have v1 := e3.cell 1
    have v2 := e3.cell 2
    have v3 := e3.cell 3
    have v4 := e3.cell 4
    have v5 := e3.cell 5
    simp only [List.getElem?_toArray, List.getElem?_cons_zero, List.getElem?_cons_succ] at v0 v1 v2 v3 v4 v5
    have y0 := e3.frozen 0
    have y1 := e3.frozen 1
    have y2 := e3.frozen 2
    have y3 := e3.frozen 3
    have y4 := e3.frozen 4
    have y5 := e3.frozen 5
    have u0 := e0.cell 0
    have u1 := e0.cell 1
    have u2 := e0.cell 2
    have u3 := e0.cell 3
    have u4 := e0.cell 4
    have u5 := e0.cell 5
    have u6 := e0.cell 6
    have u7 := e0.cell 7
    have u8 := e0.cell 8
    have u9 := e0.cell 9
    have u10 := e0.cell 10
    simp only [List.getElem?_toArray, List.getElem?_cons_zero, List.getElem?_cons_succ] at u0 u1 u2 u3 u4 u5 u6 u7 u8 u9 u10
    have HE3 : Hid (∀ a0 a1 a2 a3 a4 a5 : Int, Blk ((((((w6.setCell ⟨w5.heap.size, 0, none⟩ (.int .i64 a0)).setCell ⟨w5.heap.size, 1, none⟩ (.int .i64 a1)).setCell ⟨w5.heap.size, 2, none⟩ (.int .i64 a2)).setCell ⟨w5.heap.size, 3, none⟩ (.int .i64 a3)).setCell ⟨w5.heap.size, 4, none⟩ (.int .i64 a4)).setCell ⟨w5.heap.size, 5, none⟩ (.int .i64 a5)) w5.heap.size 88 #[.int .i64 a0, .int .i64 a1, .int .i64 a2, .int .i64 a3, .int .i64 a4, .int .i64 a5]) := fun a0 a1 a2 a3 a4 a5 => by
      have h := (((((e3.put 0 (.int .i64 a0)).put 1 (.int .i64 a1)).put 2 (.int .i64 a2)).put 3 (.int .i64 a3)).put 4 (.int .i64 a4)).put 5 (.int .i64 a5)
      simpa using h
    have HFar : Hid (∀ (g : Nat) (t : TypeId) (cs : Array Value) (a0 a1 a2 a3 a4 a5 : Int), g < w5.heap.size → Blk w6 g t cs → Blk ((((((w6.setCell ⟨w5.heap.size, 0, none⟩ (.int .i64 a0)).setCell ⟨w5.heap.size, 1, none⟩ (.int .i64 a1)).setCell ⟨w5.heap.size, 2, none⟩ (.int .i64 a2)).setCell ⟨w5.heap.size, 3, none⟩ (.int .i64 a3)).setCell ⟨w5.heap.size, 4, none⟩ (.int .i64 a4)).setCell ⟨w5.heap.size, 5, none⟩ (.int .i64 a5)) g t cs) := fun g t cs a0 a1 a2 a3 a4 a5 hg h =>
      (((((h.far (by simp; omega) _).far (by simp; omega) _).far (by simp; omega) _).far (by simp; omega) _).far (by simp; omega) _).far (by simp; omega) _
    have HBW : Hid (∀ a0 a1 a2 a3 a4 a5 : Int, Below w.heap.size w ((((((w6.setCell ⟨w5.heap.size, 0, none⟩ (.int .i64 a0)).setCell ⟨w5.heap.size, 1, none⟩ (.int .i64 a1)).setCell ⟨w5.heap.size, 2, none⟩ (.int .i64 a2)).setCell ⟨w5.heap.size, 3, none⟩ (.int .i64 a3)).setCell ⟨w5.heap.size, 4, none⟩ (.int .i64 a4)).setCell ⟨w5.heap.size, 5, none⟩ (.int .i64 a5))) := fun a0 a1 a2 a3 a4 a5 =>
      (((((HB6.out.setCell (by simp; omega) _).setCell (by simp; omega) _).setCell (by simp; omega) _).setCell (by simp; omega) _).setCell (by simp; omega) _).setCell (by simp; omega) _
    have m0 := e0.lt
    have m3 := e3.lt
    have HM0 := Lib.hid e0
    have HM1 := Lib.hid e1
    have HM2 := Lib.hid e2
    clear e0 e1 e2 e3 hb6 c3 c4 c5 c6 c7 z4
    obtain ⟨b0, b1, b2, b3, b4, b5⟩ := bt
    dsimp only
    go_wp2_with fail
    refine (HSg.out _ (HBW.out _ _ _ _ _ _)).mono ?_; rintro e w7 ⟨rfl, hb7⟩
    have e0 := (HFar.out _ _ _ b0 b1 b2 b3 b4 b5 l0 HM0.out).below hb7 (HFar.out _ _ _ b0 b1 b2 b3 b4 b5 l0 HM0.out).lt
    have e1 := (HFar.out _ _ _ b0 b1 b2 b3 b4 b5 l1 HM1.out).below hb7 (HFar.out _ _ _ b0 b1 b2 b3 b4 b5 l1 HM1.out).lt
    have e2 := (HFar.out _ _ _ b0 b1 b2 b3 b4 b5 l2 HM2.out).below hb7 (HFar.out _ _ _ b0 b1 b2 b3 b4 b5 l2 HM2.out).lt
    have e3 := (HE3.out b0 b1 b2 b3 b4 b5).below hb7 (HE3.out b0 b1 b2 b3 b4 b5).lt
    have HB7 := Lib.hid ((HBW.out b0 b1 b2 b3 b4 b5).trans (hb7.mono (HBW.out b0 b1 b2 b3 b4 b5).size))
    clear hb7 u0 u1 u2 u3 u4 u5 u6 u7 u8 u9 u10 v0 v1 v2 v3 v4 v5 y0 y1 y2 y3 y4 y5 m0 m3
    have u8 := e0.cell 8
    have t1 := e1.cell 1
    have t2 := e1.cell 2
    have v2 := e3.cell 2
    have v3 := e3.cell 3
    have v4 := e3.cell 4
    have v5 := e3.cell 5
    have g0' := e2.cell 0
    have g1' := e2.cell 1
    have g2' := e2.cell 2
    have g3' := e2.cell 3
    have g4' := e2.cell 4
    have g5' := e2.cell 5
    simp only [List.getElem?_toArray, List.getElem?_cons_zero, List.getElem?_cons_succ] at u8 t1 t2 v2 v3 v4 v5 g0' g1' g2' g3' g4' g5'
    have y0 := e2.frozen 0
    have y1 := e2.frozen 1
    have y2 := e2.frozen 2
    have y3 := e2.frozen 3
    have y4 := e2.frozen 4
    have y5 := e2.frozen 5
    have m0 := e0.lt
    have m1 := e1.lt
    have m2 := e2.lt
    have m3 := e3.lt
    clear e0 e1 e2 e3
    unfold bxIn at q3
    dsimp only at q3
    obtain ⟨k0, k1, k2, k3, k4, k5, k6, k7, k8, k9, k10, k11⟩ := q3
    go_wp2
    refine bodyPost_ret (v := .agg #[.int .i64 sw, .int .i64 sh, .int .i64 (mg + cl + b2), .int .i64 (mg + rl + b3), .int .i64 b4, .int .i64 b5]) (by simp [results, Try.results35, go_sem, g0', g1', g2', g3', g4', g5', World.cell?_setCell_other, World.cell?_setCell_same]) rfl ?_
    rw [HP.out, HPb.out, HV.out]
    exact ⟨rfl, (((((HB7.out.setCell (by simp; omega) _).setCell (by simp; omega) _).setCell (by simp; omega) _).setCell (by simp; omega) _).setCell (by simp; omega) _).setCell (by simp; omega) _⟩
  · have HTu2 : Hid (∀ w', Calls Try.prog 36 #[.agg #[.int .i64 (W + fo + sp), .int .i64 (H + 2 * hd), .int .i64 (inn), .int .i64 hd, .int .i64 W, .int .i64 H], .int .i64 (pt : Int)] w' fun e w'' => e = .returned (.agg #[.int .i64 bt.fw, .int .i64 bt.fh, .int .i64 bt.x, .int .i64 bt.y, .int .i64 bt.w, .int .i64 bt.h]) ∧ Below w'.heap.size w' w'') := fun w' => by
      have h := HTu.out w'
      rw [HB0.out, if_neg hpar, HV.out, HV.out] at h
      exact h
    have hm : ((i : Int) + 1) % 2 = 1 := by omega
    clear HTu HB0
    go_wp2_with fail
    refine (HTu2.out _).mono ?_; rintro e w6 ⟨rfl, hb6⟩
    have e0 := (HL0.out.alloc (Obj.cells #[.int .i64 (W + fo + sp), .int .i64 (H + 2 * hd), .int .i64 (inn), .int .i64 hd, .int .i64 W, .int .i64 H] 88)).below hb6 (by simp; omega)
    have e1 := (HL1.out.alloc (Obj.cells #[.int .i64 (W + fo + sp), .int .i64 (H + 2 * hd), .int .i64 (inn), .int .i64 hd, .int .i64 W, .int .i64 H] 88)).below hb6 (by simp; omega)
    have e2 := (HL2.out.alloc (Obj.cells #[.int .i64 (W + fo + sp), .int .i64 (H + 2 * hd), .int .i64 (inn), .int .i64 hd, .int .i64 W, .int .i64 H] 88)).below hb6 (by simp; omega)
    have e3 := (Blk.new w5 88 #[.int .i64 (W + fo + sp), .int .i64 (H + 2 * hd), .int .i64 (inn), .int .i64 hd, .int .i64 W, .int .i64 H]).below hb6 (by simp)
    have HB6 := Lib.hid ((HB5.out.alloc HB5.out.size (Obj.cells #[.int .i64 (W + fo + sp), .int .i64 (H + 2 * hd), .int .i64 (inn), .int .i64 hd, .int .i64 W, .int .i64 H] 88)).trans (hb6.mono (by simp; omega)))
    have v0 := e3.cell 0
    have v1 := e3.cell 1
    have v2 := e3.cell 2
    have v3 := e3.cell 3
    have v4 := e3.cell 4
    have v5 := e3.cell 5
    simp only [List.getElem?_toArray, List.getElem?_cons_zero, List.getElem?_cons_succ] at v0 v1 v2 v3 v4 v5
    have y0 := e3.frozen 0
    have y1 := e3.frozen 1
    have y2 := e3.frozen 2
    have y3 := e3.frozen 3
    have y4 := e3.frozen 4
    have y5 := e3.frozen 5
    have u0 := e0.cell 0
    have u1 := e0.cell 1
    have u2 := e0.cell 2
    have u3 := e0.cell 3
    have u4 := e0.cell 4
    have u5 := e0.cell 5
    have u6 := e0.cell 6
    have u7 := e0.cell 7
    have u8 := e0.cell 8
    have u9 := e0.cell 9
    have u10 := e0.cell 10
    simp only [List.getElem?_toArray, List.getElem?_cons_zero, List.getElem?_cons_succ] at u0 u1 u2 u3 u4 u5 u6 u7 u8 u9 u10
    have HE3 : Hid (∀ a0 a1 a2 a3 a4 a5 : Int, Blk ((((((w6.setCell ⟨w5.heap.size, 0, none⟩ (.int .i64 a0)).setCell ⟨w5.heap.size, 1, none⟩ (.int .i64 a1)).setCell ⟨w5.heap.size, 2, none⟩ (.int .i64 a2)).setCell ⟨w5.heap.size, 3, none⟩ (.int .i64 a3)).setCell ⟨w5.heap.size, 4, none⟩ (.int .i64 a4)).setCell ⟨w5.heap.size, 5, none⟩ (.int .i64 a5)) w5.heap.size 88 #[.int .i64 a0, .int .i64 a1, .int .i64 a2, .int .i64 a3, .int .i64 a4, .int .i64 a5]) := fun a0 a1 a2 a3 a4 a5 => by
      have h := (((((e3.put 0 (.int .i64 a0)).put 1 (.int .i64 a1)).put 2 (.int .i64 a2)).put 3 (.int .i64 a3)).put 4 (.int .i64 a4)).put 5 (.int .i64 a5)
      simpa using h
    have HFar : Hid (∀ (g : Nat) (t : TypeId) (cs : Array Value) (a0 a1 a2 a3 a4 a5 : Int), g < w5.heap.size → Blk w6 g t cs → Blk ((((((w6.setCell ⟨w5.heap.size, 0, none⟩ (.int .i64 a0)).setCell ⟨w5.heap.size, 1, none⟩ (.int .i64 a1)).setCell ⟨w5.heap.size, 2, none⟩ (.int .i64 a2)).setCell ⟨w5.heap.size, 3, none⟩ (.int .i64 a3)).setCell ⟨w5.heap.size, 4, none⟩ (.int .i64 a4)).setCell ⟨w5.heap.size, 5, none⟩ (.int .i64 a5)) g t cs) := fun g t cs a0 a1 a2 a3 a4 a5 hg h =>
      (((((h.far (by simp; omega) _).far (by simp; omega) _).far (by simp; omega) _).far (by simp; omega) _).far (by simp; omega) _).far (by simp; omega) _
    have HBW : Hid (∀ a0 a1 a2 a3 a4 a5 : Int, Below w.heap.size w ((((((w6.setCell ⟨w5.heap.size, 0, none⟩ (.int .i64 a0)).setCell ⟨w5.heap.size, 1, none⟩ (.int .i64 a1)).setCell ⟨w5.heap.size, 2, none⟩ (.int .i64 a2)).setCell ⟨w5.heap.size, 3, none⟩ (.int .i64 a3)).setCell ⟨w5.heap.size, 4, none⟩ (.int .i64 a4)).setCell ⟨w5.heap.size, 5, none⟩ (.int .i64 a5))) := fun a0 a1 a2 a3 a4 a5 =>
      (((((HB6.out.setCell (by simp; omega) _).setCell (by simp; omega) _).setCell (by simp; omega) _).setCell (by simp; omega) _).setCell (by simp; omega) _).setCell (by simp; omega) _
    have m0 := e0.lt
    have m3 := e3.lt
    have HM0 := Lib.hid e0
    have HM1 := Lib.hid e1
    have HM2 := Lib.hid e2
    clear e0 e1 e2 e3 hb6 c3 c4 c5 c6 c7 z4
    obtain ⟨b0, b1, b2, b3, b4, b5⟩ := bt
    dsimp only
    go_wp2_with fail
    refine (HSg.out _ (HBW.out _ _ _ _ _ _)).mono ?_; rintro e w7 ⟨rfl, hb7⟩
    have e0 := (HFar.out _ _ _ b0 b1 b2 b3 b4 b5 l0 HM0.out).below hb7 (HFar.out _ _ _ b0 b1 b2 b3 b4 b5 l0 HM0.out).lt
    have e1 := (HFar.out _ _ _ b0 b1 b2 b3 b4 b5 l1 HM1.out).below hb7 (HFar.out _ _ _ b0 b1 b2 b3 b4 b5 l1 HM1.out).lt
    have e2 := (HFar.out _ _ _ b0 b1 b2 b3 b4 b5 l2 HM2.out).below hb7 (HFar.out _ _ _ b0 b1 b2 b3 b4 b5 l2 HM2.out).lt
    have e3 := (HE3.out b0 b1 b2 b3 b4 b5).below hb7 (HE3.out b0 b1 b2 b3 b4 b5).lt
    have HB7 := Lib.hid ((HBW.out b0 b1 b2 b3 b4 b5).trans (hb7.mono (HBW.out b0 b1 b2 b3 b4 b5).size))
    clear hb7 u0 u1 u2 u3 u4 u5 u6 u7 u8 u9 u10 v0 v1 v2 v3 v4 v5 y0 y1 y2 y3 y4 y5 m0 m3
    have u8 := e0.cell 8
    have t1 := e1.cell 1
    have t2 := e1.cell 2
    have v2 := e3.cell 2
    have v3 := e3.cell 3
    have v4 := e3.cell 4
    have v5 := e3.cell 5
    have g0' := e2.cell 0
    have g1' := e2.cell 1
    have g2' := e2.cell 2
    have g3' := e2.cell 3
    have g4' := e2.cell 4
    have g5' := e2.cell 5
    simp only [List.getElem?_toArray, List.getElem?_cons_zero, List.getElem?_cons_succ] at u8 t1 t2 v2 v3 v4 v5 g0' g1' g2' g3' g4' g5'
    have y0 := e2.frozen 0
    have y1 := e2.frozen 1
    have y2 := e2.frozen 2
    have y3 := e2.frozen 3
    have y4 := e2.frozen 4
    have y5 := e2.frozen 5
    have m0 := e0.lt
    have m1 := e1.lt
    have m2 := e2.lt
    have m3 := e3.lt
    clear e0 e1 e2 e3
    unfold bxIn at q3
    dsimp only at q3
    obtain ⟨k0, k1, k2, k3, k4, k5, k6, k7, k8, k9, k10, k11⟩ := q3
    go_wp2
    refine bodyPost_ret (v := .agg #[.int .i64 sw, .int .i64 sh, .int .i64 (mg + cl + b2), .int .i64 (mg + rl + b3), .int .i64 b4, .int .i64 b5]) (by simp [results, Try.results35, go_sem, g0', g1', g2', g3', g4', g5', World.cell?_setCell_other, World.cell?_setCell_same]) rfl ?_
    rw [HP.out, HPb.out, HV.out]
    exact ⟨rfl, (((((HB7.out.setCell (by simp; omega) _).setCell (by simp; omega) _).setCell (by simp; omega) _).setCell (by simp; omega) _).setCell (by simp; omega) _).setCell (by simp; omega) _⟩
end Go.Proofs.Ytjcijogdcafloaa
