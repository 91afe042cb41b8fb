/- The walks of leaf, single, size, depth and turned. -/
import Derived.Test.YtjcijogdcafloaaPagesBad
import Derived.Test.YtjcijogdcafloaaImpPlain
import Derived.Deep.QuietTactic
import Derived.BigQuiet
namespace Go.Proofs.Ytjcijogdcafloaa
open Go.RowKit
/-- The value of a layout. -/
def layV (L : Lay) (v : Value) : Value := .agg #[.int .i64 (L.C : Int), .int .i64 (L.R : Int), v, .int .i64 L.W, .int .i64 L.H, .int .i64 L.head, .int .i64 L.fore, .int .i64 L.spine, .int .i64 L.margin, .int .i64 L.creep, .int .i64 L.style]
/-- Bounds of a layout. -/
structure LB (L : Lay) (v : Value) (l : List Step) : Prop where
  good : Good L.C L.R l
  whole : whole L.C L.R l
  odd : (turnOf (lastSide l) % 2 == 1) = L.odd
  w1 : 1 ≤ L.W
  w2 : L.W ≤ 256
  h1 : 1 ≤ L.H
  h2 : L.H ≤ 256
  hd0 : 0 ≤ L.head
  hd1 : L.head ≤ 64
  fo0 : 0 ≤ L.fore
  fo1 : L.fore ≤ 64
  sp0 : 0 ≤ L.spine
  sp1 : L.spine ≤ 64
  mg0 : 0 ≤ L.margin
  mg1 : L.margin ≤ 64
  cr0 : 0 ≤ L.creep
  cr1 : L.creep ≤ 8
/-- The pages of a layout. -/
def psOf (L : Lay) (l : List Step) : List Pg := pagesOf L.C (turnOf (lastSide l)) (endPile L.C L.R l)
theorem psOf_length {L : Lay} {v : Value} {l : List Step} (h : LB L v l) : (psOf L l).length = 2 * (L.C * L.R) := by
  unfold psOf; rw [pagesOf_length, end_length h.good.ok h.whole.1 h.whole.2, Nat.mul_comm L.R]
theorem psOf_pages {L : Lay} {v : Value} {l : List Step} (h : LB L v l) : L.Pages (psOf L l) where
  len := psOf_length h
  inn := fun p hp => by
    have htl := turnOf_lt (lastSide l)
    obtain ⟨h1, h2⟩ := pages_in (R := L.R) (fun x hx => end_in h.whole.1 h.whole.2 hx) hp
    obtain ⟨h3, h4⟩ := pages_turn htl hp
    exact ⟨h1, h2, h3, by rw [h4]; exact h.odd⟩
  one := fun i hi => pages_once (fun x hx => end_in h.whole.1 h.whole.2 hx) (fun i hi => end_once h.good.ok h.whole.1 h.whole.2 hi) hi
theorem cr_pos {L : Lay} {v : Value} {l : List Step} (h : LB L v l) : 0 < L.C * L.R := Nat.mul_pos h.good.c1 h.good.r1
/-- The first page's turn. -/
def Turn0Post (o : Bool) (w : World) (e : Ending) (w' : World) : Prop :=
  ∃ (g n cap t0 : Nat), e = .returned (.tuple #[.slice (some ⟨g, 0, none⟩) n cap, .int .i64 0]) ∧ 0 < n ∧ w'.cell? ⟨g, 3, none⟩ = some (.int .i64 (t0 : Int)) ∧ t0 < 4 ∧ (t0 % 2 == 1) = o ∧ g < w'.heap.size ∧ Below w.heap.size w w'
theorem turn0_any {L : Lay} {v : Value} {l : List Step} (h : LB L v l) (w : World) (hI : Sv w v l) :
    Calls Try.prog 33 #[.agg #[.int .i64 (L.C : Int), .int .i64 (L.R : Int), v]] w (Turn0Post L.odd w) := by
  refine (pages_ok L.C L.R v l w hI h.good h.whole).mono ?_
  rintro e w' ⟨v', rfl, ho, hb⟩
  have hl := psOf_length h
  unfold psOf at hl
  have hc := cr_pos h
  have hps := (psOf_pages h).inn
  unfold psOf at hps
  obtain ⟨g, cap, rfl, hgl, hcap, _, hcells⟩ := pages_cells ho (by omega)
  obtain ⟨_, _, _, z3⟩ := hcells 0 (by omega)
  have hm : pgN (pagesOf L.C (turnOf (lastSide l)) (endPile L.C L.R l)) 0 ∈ pagesOf L.C (turnOf (lastSide l)) (endPile L.C L.R l) := by
    unfold pgN; rw [List.getD_eq_getElem?_getD, List.getElem?_eq_getElem (by omega)]; exact List.getElem_mem _
  obtain ⟨_, _, t1, t2⟩ := hps _ hm
  exact ⟨g, _, cap, _, rfl, by omega, z3, t1, t2, hgl, hb⟩
set_option maxRecDepth 100000 in
set_option maxHeartbeats 4000000 in
theorem leaf_any {L : Lay} {v : Value} {l : List Step} (h : LB L v l) (w : World) (hI : Sv w v l) :
    Calls Try.prog 37 #[layV L v] w fun e w' => e = .returned (.tuple #[.int .i64 L.lw, .int .i64 L.lh]) ∧ Below w.heap.size w w' := by
  have HI := Lib.hid hI
  have HP : Hid (∀ w', Below w.heap.size w w' → Calls Try.prog 33 #[.agg #[.int .i64 (L.C : Int), .int .i64 (L.R : Int), v]] w' (Turn0Post L.odd w')) := fun w' hb => turn0_any h w' (SlM.later HI.out hb)
  obtain ⟨Av, cv, ev⟩ := SlM.form hI
  have h' := h
  obtain ⟨_, _, _, w1, w2, h1, h2, hd0, hd1, fo0, fo1, sp0, sp1, _, _, _, _⟩ := h'
  have HR : Hid (L.lw = (if L.odd then L.H + 2 * L.head else L.W + L.fore + L.spine) ∧ L.lh = (if L.odd then L.W + L.fore + L.spine else L.H + 2 * L.head)) := ⟨rfl, rfl⟩
  unfold layV
  generalize L.lw = rw at *
  generalize L.lh = rh at *
  clear h hI
  obtain ⟨C, R, W, H, hd, fo, sp, mg, cr, sty, od⟩ := L
  dsimp only at *
  subst ev
  have hb0 := Lib.hid ((Below.refl w.heap.size w).alloc (Nat.le_refl _) (Obj.cells #[.int .i64 (C : Int), .int .i64 (R : Int), .slice Av l.length cv, .int .i64 W, .int .i64 H, .int .i64 hd, .int .i64 fo, .int .i64 sp, .int .i64 mg, .int .i64 cr, .int .i64 sty] 26))
  generalize l.length = n at *
  go_enter Try.func37, Try.ntmps37
  go_wp2
  go_quiet (fail)
  go_wp2_with fail
  refine (HP.out _ (below_drewN hb0.out nq)).mono ?_; rintro e w1 ⟨g, m, cap, t0, rfl, hm, c3, ht4, hto, hgl, hb1⟩
  have HB := Lib.hid ((below_drewN hb0.out nq).trans (hb1.mono (below_drewN hb0.out nq).size))
  have hodd : (((t0 : Int) % 2) == 1) = od := by rw [← hto, Bool.eq_iff_iff, beq_iff_eq, beq_iff_eq]; omega
  clear hb1 hto
  cases od
  · simp only [Bool.false_eq_true, if_false] at HR
    go_wp2
    go_ret2
    refine ⟨?_, HB.out⟩
    rw [HR.out.1, HR.out.2]
    rfl
  · simp only [if_true] at HR
    go_wp2
    go_ret2
    refine ⟨?_, HB.out⟩
    rw [HR.out.1, HR.out.2]
    rfl
theorem lay_sizes {L : Lay} {v : Value} {l : List Step} (h : LB L v l) : 0 ≤ L.lw ∧ L.lw ≤ 384 ∧ 0 ≤ L.lh ∧ L.lh ≤ 384 := by
  obtain ⟨_, _, _, w1, w2, h1, h2, hd0, hd1, fo0, fo1, sp0, sp1, _, _, _, _⟩ := h
  unfold Lay.lw Lay.lh Lay.fw Lay.fh
  split <;> omega
theorem mul_bound {a : Nat} {x m : Int} (ha : a ≤ 8) (h0 : 0 ≤ x) (h1 : x ≤ m) : 0 ≤ (a : Int) * x ∧ (a : Int) * x ≤ 8 * m := by
  refine ⟨Int.mul_nonneg (by omega) h0, ?_⟩
  exact Int.mul_le_mul (by omega) h1 h0 (by omega)
set_option maxRecDepth 100000 in
set_option maxHeartbeats 4000000 in
theorem single_any {L : Lay} {v : Value} {l : List Step} (h : LB L v l) (w : World) (hI : Sv w v l) :
    Calls Try.prog 38 #[layV L v] w fun e w' => e = .returned (.tuple #[.int .i64 L.sw, .int .i64 L.sh]) ∧ Below w.heap.size w w' := by
  have HI := Lib.hid hI
  have HP : Hid (∀ w', Below w.heap.size w w' → Calls Try.prog 37 #[layV L v] w' fun e w'' => e = .returned (.tuple #[.int .i64 L.lw, .int .i64 L.lh]) ∧ Below w'.heap.size w' w'') := fun w' hb => leaf_any h w' (SlM.later HI.out hb)
  obtain ⟨Av, cv, ev⟩ := SlM.form hI
  obtain ⟨z0, z1, z2, z3⟩ := lay_sizes h
  obtain ⟨m0, m1⟩ := mul_bound h.good.c8 z0 z1
  obtain ⟨m2, m3⟩ := mul_bound h.good.r8 z2 z3
  have mg0 := h.mg0
  have mg1 := h.mg1
  have HR : Hid (L.sw = 2 * L.margin + L.C * L.lw ∧ L.sh = 2 * L.margin + L.R * L.lh) := ⟨rfl, rfl⟩
  generalize L.sw = rw at *
  generalize L.sh = rh at *
  generalize L.lw = lw at *
  generalize L.lh = lh at *
  unfold layV at *
  clear h hI
  obtain ⟨C, R, W, H, hd, fo, sp, mg, cr, sty, od⟩ := L
  dsimp only at *
  subst ev
  have hb0 := Lib.hid ((Below.refl w.heap.size w).alloc (Nat.le_refl _) (Obj.cells #[.int .i64 (C : Int), .int .i64 (R : Int), .slice Av l.length cv, .int .i64 W, .int .i64 H, .int .i64 hd, .int .i64 fo, .int .i64 sp, .int .i64 mg, .int .i64 cr, .int .i64 sty] 26))
  have hbl0 := Lib.hid (Blk.new w 26 #[.int .i64 (C : Int), .int .i64 (R : Int), .slice Av l.length cv, .int .i64 W, .int .i64 H, .int .i64 hd, .int .i64 fo, .int .i64 sp, .int .i64 mg, .int .i64 cr, .int .i64 sty])
  generalize l.length = n at *
  go_enter Try.func38, Try.ntmps38
  go_wp2_with fail
  refine (HP.out _ hb0.out).mono ?_; rintro e w1 ⟨rfl, hb1⟩
  have x := hbl0.out.below hb1 hbl0.out.lt
  have HB := Lib.hid (hb0.out.trans (hb1.mono hb0.out.size))
  have c0 := x.cell 0
  have c1 := x.cell 1
  have c6 := x.cell 8
  simp only [List.getElem?_toArray, List.getElem?_cons_zero, List.getElem?_cons_succ] at c0 c1 c6
  have hlt := x.lt
  clear hb1 x
  generalize hcw : (C : Int) * lw = cw at *
  generalize hrh : (R : Int) * lh = rr at *
  go_wp2
  go_quiet (fail)
  go_wp2
  go_ret2
  refine ⟨?_, below_drewN HB.out nq⟩
  rw [HR.out.1, HR.out.2]
  rfl
set_option maxRecDepth 100000 in
set_option maxHeartbeats 4000000 in
theorem size_imp {L : Lay} {v : Value} {l : List Step} (h : LB L v l) (s0 : 0 ≤ L.style) (s2 : L.style ≤ 2) (w : World) (hI : Sv w v l) :
    Calls Try.prog 34 #[layV L v] w fun e w' => e = .returned (.tuple #[.int .i64 L.pw, .int .i64 L.ph]) ∧ Below w.heap.size w w' := by
  have HI := Lib.hid hI
  have HP : Hid (∀ w', Below w.heap.size w w' → Calls Try.prog 38 #[layV L v] w' fun e w'' => e = .returned (.tuple #[.int .i64 L.sw, .int .i64 L.sh]) ∧ Below w'.heap.size w' w'') := fun w' hb => single_any h w' (SlM.later HI.out hb)
  obtain ⟨Av, cv, ev⟩ := SlM.form hI
  obtain ⟨z0, z1, z2, z3⟩ := lay_sizes h
  obtain ⟨m0, m1⟩ := mul_bound h.good.c8 z0 z1
  obtain ⟨m2, m3⟩ := mul_bound h.good.r8 z2 z3
  have hsw : 0 ≤ L.sw ∧ L.sw ≤ 4000 := by have := h.mg0; have := h.mg1; unfold Lay.sw; omega
  have hsh : 0 ≤ L.sh ∧ L.sh ≤ 4000 := by have := h.mg0; have := h.mg1; unfold Lay.sh; omega
  obtain ⟨a0, a1⟩ := hsw
  obtain ⟨a2, a3⟩ := hsh
  have HR : Hid (L.pw = (if L.style = 1 then L.sw * 2 else L.sw) ∧ L.ph = (if L.style = 2 then L.sh * 2 else L.sh)) := ⟨rfl, rfl⟩
  generalize L.pw = rw at *
  generalize L.ph = rh at *
  generalize L.sw = sw at *
  generalize L.sh = sh at *
  unfold layV at *
  clear h hI z0 z1 z2 z3 m0 m1 m2 m3
  obtain ⟨C, R, W, H, hd, fo, sp, mg, cr, sty, od⟩ := L
  dsimp only at *
  subst ev
  have hb0 := Lib.hid ((Below.refl w.heap.size w).alloc (Nat.le_refl _) (Obj.cells #[.int .i64 (C : Int), .int .i64 (R : Int), .slice Av l.length cv, .int .i64 W, .int .i64 H, .int .i64 hd, .int .i64 fo, .int .i64 sp, .int .i64 mg, .int .i64 cr, .int .i64 sty] 26))
  have hbl0 := Lib.hid (Blk.new w 26 #[.int .i64 (C : Int), .int .i64 (R : Int), .slice Av l.length cv, .int .i64 W, .int .i64 H, .int .i64 hd, .int .i64 fo, .int .i64 sp, .int .i64 mg, .int .i64 cr, .int .i64 sty])
  generalize l.length = n at *
  have hs : sty = 0 ∨ sty = 1 ∨ sty = 2 := by omega
  clear s0 s2
  go_enter Try.func34, Try.ntmps34
  go_wp2_with fail
  refine (HP.out _ hb0.out).mono ?_; rintro e w1 ⟨rfl, hb1⟩
  have x := hbl0.out.below hb1 hbl0.out.lt
  have HB := Lib.hid (hb0.out.trans (hb1.mono hb0.out.size))
  have c6 := x.cell 10
  simp only [List.getElem?_toArray, List.getElem?_cons_zero, List.getElem?_cons_succ] at c6
  have hlt := x.lt
  clear hb1 x
  rcases hs with rfl | rfl | rfl
  all_goals
    go_wp2
    go_ret2
    refine ⟨?_, HB.out⟩
    rw [HR.out.1, HR.out.2]
    rfl
set_option maxHeartbeats 1000000 in
theorem depth_any (a n : Nat) (w : World) (h : a < n) (hn : n ≤ 1000) :
    Calls Try.prog 54 #[.int .i64 (a : Int), .int .i64 (n : Int)] w fun e w' => e = .returned (.int .i64 ((min a (n - 1 - a) : Nat) : Int)) ∧ w = w' := by
  by_cases hl : a < n - 1 - a
  · go_enter Try.func54, Try.ntmps54
    go_wp2
    go_ret
    exact ⟨endInt (by omega), rfl⟩
  · go_enter Try.func54, Try.ntmps54
    go_wp2
    go_ret
    exact ⟨endInt (by omega), rfl⟩
def bxV (b : Bx6) : Value := .agg #[.int .i64 b.fw, .int .i64 b.fh, .int .i64 b.x, .int .i64 b.y, .int .i64 b.w, .int .i64 b.h]
/-- Bounds of a box. -/
def bxIn (b : Bx6) (m : Int) : Prop := -m ≤ b.fw ∧ b.fw ≤ m ∧ -m ≤ b.fh ∧ b.fh ≤ m ∧ -m ≤ b.x ∧ b.x ≤ m ∧ -m ≤ b.y ∧ b.y ≤ m ∧ -m ≤ b.w ∧ b.w ≤ m ∧ -m ≤ b.h ∧ b.h ≤ m
theorem bxIn_turn {b : Bx6} {m : Int} (h : bxIn b m) : bxIn b.turn1 (3 * m) := by
  unfold bxIn at h ⊢; unfold Bx6.turn1; dsimp only; omega
set_option maxRecDepth 100000 in
set_option maxHeartbeats 4000000 in
theorem turned_any (b : Bx6) (k : Nat) (w : World) (hk : k ≤ 4) (hb : bxIn b 100000) :
    Calls Try.prog 36 #[bxV b, .int .i64 (k : Int)] w fun e w' => e = .returned (bxV (b.turnN k)) ∧ Below w.heap.size w w' := by
  have hbs : ∀ j, j ≤ k → bxIn (b.turnN j) (3 ^ j * 100000) := by
    intro j
    induction j with
    | zero => intro _; simpa [Bx6.turnN] using hb
    | succ j ih => intro h; have := bxIn_turn (ih (by omega)); rw [Int.pow_succ, Int.mul_comm (3 ^ j) 3, Int.mul_assoc]; exact this
  have HB : Hid (∀ j, j ≤ k → bxIn (b.turnN j) 8100000) := fun j hj => by
    have h1 := hbs j hj
    have h4 : j = 0 ∨ j = 1 ∨ j = 2 ∨ j = 3 ∨ j = 4 := by omega
    unfold bxIn at h1 ⊢
    rcases h4 with rfl | rfl | rfl | rfl | rfl <;> omega
  have HT : Hid (∀ j, b.turnN (j + 1) = (b.turnN j).turn1) := fun _ => rfl
  have HZ : Hid (b.turnN 0 = b) := rfl
  have HV : Hid (∀ c : Bx6, bxV c = .agg #[.int .i64 c.fw, .int .i64 c.fh, .int .i64 c.x, .int .i64 c.y, .int .i64 c.w, .int .i64 c.h]) := fun _ => rfl
  rw [HV.out, HV.out]
  clear hbs hb
  go_enter Try.func36, Try.ntmps36
  go_wp2
  go_loopw [1] (fun vk wr => ∃ j : Nat, j ≤ k ∧ vk = .int .i64 ((k - j : Nat) : Int) ∧ Blk wr w.heap.size 88 #[.int .i64 (b.turnN j).fw, .int .i64 (b.turnN j).fh, .int .i64 (b.turnN j).x, .int .i64 (b.turnN j).y, .int .i64 (b.turnN j).w, .int .i64 (b.turnN j).h] ∧ Blk wr (w.heap.size + 1) 88 #[.int .i64 0, .int .i64 0, .int .i64 0, .int .i64 0, .int .i64 0, .int .i64 0] ∧ Below w.heap.size w wr) (fun v _ => (intOf v).toNat)
  case atStart =>
    refine ⟨0, by omega, by simp, ?_, ?_, ((Below.refl _ _).alloc (Nat.le_refl _) _).alloc (by simp) _⟩
    · rw [HZ.out]; exact (Blk.new w _ _).alloc _
    · have := Blk.new (w.alloc (.cells #[.int .i64 b.fw, .int .i64 b.fh, .int .i64 b.x, .int .i64 b.y, .int .i64 b.w, .int .i64 b.h] 88)) 88 #[.int .i64 0, .int .i64 0, .int .i64 0, .int .i64 0, .int .i64 0, .int .i64 0]
      simpa using this
  case round =>
    obtain ⟨j, hj, rfl, hk1, hk2, hbw⟩ := hrel
    by_cases hlt : j < k
    · have hin := HB.out j hj
      have HT1 := Lib.hid (HT.out j)
      have c0 := hk1.cell 0
      have c1 := hk1.cell 1
      have c2 := hk1.cell 2
      have c3 := hk1.cell 3
      have c4 := hk1.cell 4
      have c5 := hk1.cell 5
      have f0 := hk1.frozen 0
      have f1 := hk1.frozen 1
      have f2 := hk1.frozen 2
      have f3 := hk1.frozen 3
      have f4 := hk1.frozen 4
      have f5 := hk1.frozen 5
      simp only [List.getElem?_toArray, List.getElem?_cons_zero, List.getElem?_cons_succ] at c0 c1 c2 c3 c4 c5
      have hlt1 := hk1.lt
      have HK1 := Lib.hid hk1
      have HK2 := Lib.hid hk2
      have HBw := Lib.hid hbw
      clear hk1 hk2 hbw
      unfold bxIn at hin
      obtain ⟨p, hp⟩ : ∃ p : Nat, k - j = p + 1 := ⟨k - j - 1, by omega⟩
      have HPj : Hid (k - (j + 1) = p) := (by omega : k - (j + 1) = p)
      rw [hp]
      have hp8 : p < 100 := by omega
      clear hp
      generalize b.turnN j = d at *
      obtain ⟨d0, d1, d2, d3, d4, d5⟩ := d
      dsimp only at c0 c1 c2 c3 c4 c5 hin
      go_wp2
      go_roundw
      case rel =>
        refine ⟨j + 1, by omega, by rw [HPj.out], ?_, ?_, ?_⟩
        · have h := (((((HK1.out.put 0 (.int .i64 d1)).put 1 (.int .i64 d0)).put 2 (.int .i64 (d1 - d3 - d5))).put 3 (.int .i64 d2)).put 4 (.int .i64 d5)).put 5 (.int .i64 d4)
          rw [HT1.out]
          simpa [Bx6.turn1] using h
        · exact (((((HK2.out.far (by simp) _).far (by simp) _).far (by simp) _).far (by simp) _).far (by simp) _).far (by simp) _
        · exact (((((HBw.out.setCell (by simp) _).setCell (by simp) _).setCell (by simp) _).setCell (by simp) _).setCell (by simp) _).setCell (by simp) _
      case measure => simp [intOf]
    · obtain rfl : j = k := by omega
      have c0 := hk1.cell 0
      have c1 := hk1.cell 1
      have c2 := hk1.cell 2
      have c3 := hk1.cell 3
      have c4 := hk1.cell 4
      have c5 := hk1.cell 5
      simp only [List.getElem?_toArray, List.getElem?_cons_zero, List.getElem?_cons_succ] at c0 c1 c2 c3 c4 c5
      have g0 := hk2.cell 0
      have g1 := hk2.cell 1
      have g2 := hk2.cell 2
      have g3 := hk2.cell 3
      have g4 := hk2.cell 4
      have g5 := hk2.cell 5
      have f0 := hk2.frozen 0
      have f1 := hk2.frozen 1
      have f2 := hk2.frozen 2
      have f3 := hk2.frozen 3
      have f4 := hk2.frozen 4
      have f5 := hk2.frozen 5
      simp only [List.getElem?_toArray, List.getElem?_cons_zero, List.getElem?_cons_succ] at g0 g1 g2 g3 g4 g5
      have hlt1 := hk1.lt
      have hlt2 := hk2.lt
      have HBw := Lib.hid hbw
      clear hk1 hk2 hbw
      rw [Nat.sub_self]
      generalize hd : b.turnN j = d at *
      have HD := Lib.hid hd
      clear hd
      obtain ⟨d0, d1, d2, d3, d4, d5⟩ := d
      dsimp only at c0 c1 c2 c3 c4 c5 ⊢
      go_wp2
      refine bodyPost_ret (v := .agg #[.int .i64 d0, .int .i64 d1, .int .i64 d2, .int .i64 d3, .int .i64 d4, .int .i64 d5]) (by simp [results, Try.results36, go_sem, g0, g1, g2, g3, g4, g5, World.cell?_setCell_other, World.cell?_setCell_same]) rfl ?_
      exact ⟨by rw [HD.out], (((((HBw.out.setCell (by simp) _).setCell (by simp) _).setCell (by simp) _).setCell (by simp) _).setCell (by simp) _).setCell (by simp) _⟩
end Go.Proofs.Ytjcijogdcafloaa
