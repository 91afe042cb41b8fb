/- The walk of ImposePlacesDisjoint. -/
import Derived.Test.YtjcijogdcafloaaImpE
import Derived.Test.YtjcijogdcafloaaClose
namespace Go.Proofs.Ytjcijogdcafloaa
open Go.RowKit
/-- What the law asks of one list of placed pages, as the walk reads it. -/
structure RdOk (L : Lay) (lst : List Pla) : Prop where
  inn : ∀ i, i < lst.length → 0 ≤ (plN lst i).x ∧ 0 ≤ (plN lst i).y ∧ (plN lst i).x + L.bw (plN lst i).turn ≤ L.pw ∧ (plN lst i).y + L.bh (plN lst i).turn ≤ L.ph ∧ (plN lst i).x ≤ 100000 ∧ (plN lst i).y ≤ 100000 ∧ 0 ≤ (plN lst i).turn ∧ (plN lst i).turn < 4
  two : ∀ i j, j < i → i < lst.length → (plN lst i).page ≠ (plN lst j).page ∧ Apart (plN lst i).x (plN lst i).y (L.bw (plN lst i).turn) (L.bh (plN lst i).turn) (plN lst j).x (plN lst j).y (L.bw (plN lst j).turn) (L.bh (plN lst j).turn)
theorem rd_ok {L : Lay} (h1 : 1 ≤ L.W) (h2 : 1 ≤ L.H) (hpw : L.pw ≤ 1024) (hph : L.ph ≤ 1024) {lst : List Pla} (h : PlOk L lst) (ht : ∀ p ∈ lst, 0 ≤ p.turn ∧ p.turn < 4) : RdOk L lst where
  inn := fun i hi => by
    obtain ⟨a1, a2, a3, a4⟩ := h.1 i _ (plN_get lst hi)
    obtain ⟨b1, b2⟩ := ht _ (List.mem_of_getElem? (plN_get lst hi))
    have c1 : 0 ≤ L.bw (plN lst i).turn ∧ 0 ≤ L.bh (plN lst i).turn := by unfold Lay.bw Lay.bh; split <;> omega
    exact ⟨a1, a2, a3, a4, by omega, by omega, b1, b2⟩
  two := fun i j hij hi => by
    obtain ⟨a1, a2⟩ := h.2 j i _ _ hij (plN_get lst (by omega)) (plN_get lst hi)
    exact ⟨fun e => a1 e.symm, a2⟩
theorem turns_ok {L : Lay} {ps : List Pg} (hps : L.Pages ps) (g : Pg → Bool) (k : Nat) (hk : k ≤ ps.length) : ∀ p ∈ ((List.range k).flatMap fun i => if g (ps.getD i ⟨false, 0, 0, 0⟩) then [L.plc i (ps.getD i ⟨false, 0, 0, 0⟩)] else []), 0 ≤ p.turn ∧ p.turn < 4 := by
  intro p hp
  obtain ⟨i, hi, hx⟩ := List.mem_flatMap.1 hp
  have hik : i < ps.length := by have := List.mem_range.1 hi; omega
  have hm : ps.getD i ⟨false, 0, 0, 0⟩ ∈ ps := by rw [List.getD_eq_getElem?_getD, List.getElem?_eq_getElem hik]; exact List.getElem_mem _
  obtain ⟨_, _, t4, _⟩ := hps.inn _ hm
  split at hx
  · obtain rfl : p = L.plc i (ps.getD i ⟨false, 0, 0, 0⟩) := by simpa using hx
    unfold Lay.plc
    split
    · dsimp only; omega
    · split
      · dsimp only; omega
      · dsimp only; omega
  · cases hx
theorem front_pos {L : Lay} {ps : List Pg} (hps : L.Pages ps) (hc : 0 < L.C * L.R) : 0 < (L.frontTo ps (2 * (L.C * L.R))).length := by
  have h1 := hps.one 0 (by omega)
  obtain ⟨p, hp, hq⟩ := List.countP_pos_iff.1 (show 0 < ps.countP (pcount L.C (L.C * L.R) 0) by omega)
  have hbk : p.back = false := by
    unfold pcount pidx at hq
    cases hb : p.back with
    | false => rfl
    | true => rw [hb] at hq; simp at hq; omega
  obtain ⟨i, hi, rfl⟩ := List.getElem_of_mem hp
  have hin : L.inF ps[i] = true := by unfold Lay.inF; rw [hbk]; simp
  have hm : L.plc i ps[i] ∈ L.frontTo ps (2 * (L.C * L.R)) := by
    unfold Lay.frontTo
    refine List.mem_flatMap.2 ⟨i, List.mem_range.2 (by rw [← hps.len]; exact hi), ?_⟩
    have e : ps.getD i ⟨false, 0, 0, 0⟩ = ps[i] := by rw [List.getD_eq_getElem?_getD, List.getElem?_eq_getElem hi]; rfl
    rw [e, if_pos hin]; simp
  exact List.length_pos_of_mem hm
set_option maxRecDepth 100000 in
set_option maxHeartbeats 8000000 in
theorem disj_any (I : LayI) (v : Value) (l : List Step) (w : World) (hI : Sv w v l) :
    Calls Try.prog 3 #[I.val v] w fun e w' => e = .returned (.bool true) ∧ Below w.heap.size w w' := by
  have HI := Lib.hid hI
  have HF := Lib.hid imposes_any
  obtain ⟨Av, cv, ev⟩ := SlM.form hI
  by_cases hz : impZ I l = 0
  · obtain ⟨c, r, ec, er, hLB, ok, hpw, hph⟩ := impZ_zero v hz
    have hlen := psOf_length hLB
    have hpg := psOf_pages hLB
    have hcr := cr_pos hLB
    have hcr2 := ok.cr
    have eC : (I.lay l).C = c := by unfold LayI.lay; dsimp only; omega
    have eR : (I.lay l).R = r := by unfold LayI.lay; dsimp only; omega
    have hSh : Hid (∀ w', Below w.heap.size w w' → Calls Try.prog 10 #[I.val v, .int .i64 ((2 * (c * r) : Nat) : Int)] w' (SheetOk (I.lay l).pw (I.lay l).ph ((I.lay l).frontTo (psOf (I.lay l) l) (2 * (c * r))) ((I.lay l).backTo (psOf (I.lay l) l) (2 * (c * r))) w')) := fun w' hb => by
      have := sheet_any hz (psOf (I.lay l) l).length (Nat.le_refl _) w' (SlM.later HI.out hb)
      rw [hlen, eC, eR] at this; exact this
    have hf := rd_ok hLB.w1 hLB.h1 hpw hph (front_ok ok hpg (k := 2 * (c * r)) (by rw [hlen, eC, eR]; exact Nat.le_refl _)) (turns_ok hpg (I.lay l).inF _ (by rw [hlen, eC, eR]; exact Nat.le_refl _))
    have hb := rd_ok hLB.w1 hLB.h1 hpw hph (back_ok ok hpg (k := 2 * (c * r)) (by rw [hlen, eC, eR]; exact Nat.le_refl _)) (turns_ok hpg (I.lay l).inB _ (by rw [hlen, eC, eR]; exact Nat.le_refl _))
    have hfl := (fam_front (I.lay l) (psOf (I.lay l) l) (2 * (c * r)))
    have hbl := (fam_back (I.lay l) (psOf (I.lay l) l) (2 * (c * r)))
    have hpos : 0 < ((I.lay l).frontTo (psOf (I.lay l) l) (2 * (c * r))).length := by
      have h0 := front_pos hpg hcr
      rw [eC, eR] at h0; exact h0
    have hBox : Hid (∀ (p : Pla) (w : World), 0 ≤ p.x → p.x ≤ 100000 → 0 ≤ p.y → p.y ≤ 100000 → 0 ≤ p.turn → p.turn < 4 → Calls Try.prog 11 #[I.val v, .agg #[.int .i64 p.page, .int .i64 p.x, .int .i64 p.y, .int .i64 p.turn]] w fun e w' => e = .returned (.tuple #[.int .i64 p.x, .int .i64 p.y, .int .i64 (p.x + (I.lay l).bw p.turn), .int .i64 (p.y + (I.lay l).bh p.turn)]) ∧ Below w.heap.size w w') := fun p w' a b c d e f => by
      rw [layV_eq ec er, ev]
      exact box_any (I.lay l) Av l.length cv p w' hLB.w1 hLB.w2 hLB.h1 hLB.h2 a b c d e f
    rw [eC, eR] at hcr hcr2
    have hc8 := hLB.good.c8
    have hr8 := hLB.good.r8
    rw [eC] at hc8
    rw [eR] at hr8
    have HWd : Hid (∀ t, 1 ≤ (I.lay l).bw t ∧ (I.lay l).bw t ≤ 256 ∧ 1 ≤ (I.lay l).bh t ∧ (I.lay l).bh t ≤ 256) := fun t => by
      have := hLB.w1; have := hLB.w2; have := hLB.h1; have := hLB.h2
      unfold Lay.bw Lay.bh; split <;> omega
    generalize (I.lay l).frontTo (psOf (I.lay l) l) (2 * (c * r)) = F at *
    generalize (I.lay l).backTo (psOf (I.lay l) l) (2 * (c * r)) = Bk at *
    have HRf : Hid (RdOk (I.lay l) F) := hf
    have HRb : Hid (RdOk (I.lay l) Bk) := hb
    have hRd : Hid (∀ lst, RdOk (I.lay l) lst → (∀ i, i < lst.length → 0 ≤ (plN lst i).x ∧ 0 ≤ (plN lst i).y ∧ (plN lst i).x + (I.lay l).bw (plN lst i).turn ≤ (I.lay l).pw ∧ (plN lst i).y + (I.lay l).bh (plN lst i).turn ≤ (I.lay l).ph ∧ (plN lst i).x ≤ 100000 ∧ (plN lst i).y ≤ 100000 ∧ 0 ≤ (plN lst i).turn ∧ (plN lst i).turn < 4) ∧
      (∀ i j, j < i → i < lst.length → (plN lst i).page ≠ (plN lst j).page ∧ Apart (plN lst i).x (plN lst i).y ((I.lay l).bw (plN lst i).turn) ((I.lay l).bh (plN lst i).turn) (plN lst j).x (plN lst j).y ((I.lay l).bw (plN lst j).turn) ((I.lay l).bh (plN lst j).turn))) := fun lst h => ⟨h.inn, h.two⟩
    clear hf hb hlen hpg hLB ok eC eR hz hI
    generalize (I.lay l).pw = pw at *
    generalize (I.lay l).ph = ph at *
    generalize hbwE : (I.lay l).bw = BW at *
    generalize hbhE : (I.lay l).bh = BH at *
    clear hbwE hbhE
    generalize RdOk (I.lay l) = Rd at *
    unfold LayI.val at *
    obtain ⟨C, R, W, H, hd, fo, sp, mg, cr, sty⟩ := I
    dsimp only at *
    subst ec er ev
    generalize l.length = n at *
    have hmul : (2 : Int) * (c : Int) * (r : Int) = ((2 * (c * r) : Nat) : Int) := by rw [Int.mul_assoc]; simp
    have hb0 := Lib.hid ((Below.refl w.heap.size w).alloc (Nat.le_refl _) (Obj.cells #[.int .i64 (c : Int), .int .i64 (r : Int), .slice Av n cv, .int .i64 W, .int .i64 H, .int .i64 hd, .int .i64 fo, .int .i64 sp, .int .i64 mg, .int .i64 cr, .int .i64 sty] 26))
    have hbl0 := Lib.hid (Blk.new w 26 #[.int .i64 (c : Int), .int .i64 (r : Int), .slice Av n cv, .int .i64 W, .int .i64 H, .int .i64 hd, .int .i64 fo, .int .i64 sp, .int .i64 mg, .int .i64 cr, .int .i64 sty])
    go_enter Try.func3, Try.ntmps3
    go_wp2_with fail
    refine (HF.out _).mono ?_; rintro e w1 ⟨rfl, hb1⟩
    have x := hbl0.out.below hb1 hbl0.out.lt
    have HB1 := Lib.hid (hb0.out.trans (hb1.mono hb0.out.size))
    have HX1 := Lib.hid x
    have u0 := x.cell 0
    have u1 := x.cell 1
    have u2 := x.cell 2
    have u3 := x.cell 3
    have u4 := x.cell 4
    have u5 := x.cell 5
    have u6 := x.cell 6
    have u7 := x.cell 7
    have u8 := x.cell 8
    have u9 := x.cell 9
    have u10 := x.cell 10
    simp only [List.getElem?_toArray, List.getElem?_cons_zero, List.getElem?_cons_succ] at u0 u1 u2 u3 u4 u5 u6 u7 u8 u9 u10
    have l1 := x.lt
    clear hb1 x
    go_wp2_with fail
    rw [show (2 : Int) * ((c : Int) * (r : Int)) = ((2 * (c * r) : Nat) : Int) by simp]
    refine (hSh.out _ HB1.out).mono ?_; rintro e w2 ⟨vf, vb, rfl, hvf, hvb, hb2⟩
    have HX2 := Lib.hid (HX1.out.below hb2 HX1.out.lt)
    have HB2 := Lib.hid (HB1.out.trans (hb2.mono HB1.out.size))
    have HVf := Lib.hid hvf
    have HVb := Lib.hid hvb
    obtain ⟨Af, cf, ef⟩ := hvf.form
    obtain ⟨Ab, cb, eb⟩ := hvb.form
    subst ef eb
    clear hb2 hvf hvb u0 u1 u2 u3 u4 u5 u6 u7 u8 u9 u10 l1
    generalize hnf : F.length = nf at *
    generalize hnb : Bk.length = nb at *
    have HNf := Lib.hid hnf
    have HNb := Lib.hid hnb
    have hmx : nf ≤ 64 := by omega
    have hmx2 : nb ≤ 64 := by omega
    clear hnf hnb hmul
    have l2 := HX2.out.lt
    go_wp2
    have hw23 := ((Below.refl w2.heap.size w2).alloc (Nat.le_refl _) (Obj.cells #[.int .i64 pw, .int .i64 ph, .slice Af nf cf, .slice Ab nb cb] 30)).alloc (by simp) (Obj.cells #[.slice Af nf cf, .slice Ab nb cb] 28)
    have bS := (Blk.new w2 30 #[.int .i64 pw, .int .i64 ph, .slice Af nf cf, .slice Ab nb cb]).alloc (Obj.cells #[.slice Af nf cf, .slice Ab nb cb] 28)
    have bL := Blk.new (w2.alloc (Obj.cells #[.int .i64 pw, .int .i64 ph, .slice Af nf cf, .slice Ab nb cb] 30)) 28 #[.slice Af nf cf, .slice Ab nb cb]
    simp only [World.size_alloc] at bL
    have x3 := HX2.out.below hw23 HX2.out.lt
    have p1 : PlV ((w2.alloc (Obj.cells #[.int .i64 pw, .int .i64 ph, .slice Af nf cf, .slice Ab nb cb] 30)).alloc (Obj.cells #[.slice Af nf cf, .slice Ab nb cb] 28)) (fun _ => True) (.slice Af nf cf) F := SlM.mono (SlM.later HVf.out hw23) fun _ _ _ => trivial
    have p2 : PlV ((w2.alloc (Obj.cells #[.int .i64 pw, .int .i64 ph, .slice Af nf cf, .slice Ab nb cb] 30)).alloc (Obj.cells #[.slice Af nf cf, .slice Ab nb cb] 28)) (fun _ => True) (.slice Ab nb cb) Bk := SlM.mono (SlM.later HVb.out hw23) fun _ _ _ => trivial
    have be3 := HB2.out.trans (hw23.mono HB2.out.size)
    generalize (w2.alloc (Obj.cells #[.int .i64 pw, .int .i64 ph, .slice Af nf cf, .slice Ab nb cb] 30)).alloc (Obj.cells #[.slice Af nf cf, .slice Ab nb cb] 28) = w3 at *
    have HbS := Lib.hid bS
    have HbL := Lib.hid bL
    have HX3 := Lib.hid x3
    have HP1 := Lib.hid p1
    have HP2 := Lib.hid p2
    have HBe := Lib.hid be3
    have lS3 := bS.lt
    have lL3 := bL.lt
    have l3 := x3.lt
    clear hw23 bS bL x3 p1 p2 be3
    go_loopw [50] (fun vq wr => ∃ q : Nat, q ≤ 2 ∧ vq = .int .i64 q ∧ Below w3.heap.size w3 wr) (fun q _ => 2 - (intOf q).toNat)
    case atStart => exact ⟨0, by omega, rfl, Below.refl _ _⟩
    case round =>
      obtain ⟨q, hq, rfl, hb⟩ := hrel
      by_cases hlq : q < 2
      · have bl := HbL.out.below hb HbL.out.lt
        obtain ⟨lst, A, nl, cl, hcell, hln, hl64, HPv, HRd⟩ : ∃ (lst : List Pla) (A : Option Addr) (nl cl : Nat), wr.cell? ⟨w2.heap.size + 1, q, none⟩ = some (.slice A nl cl) ∧ Hid (lst.length = nl) ∧ nl ≤ 64 ∧ Hid (PlV w3 (fun _ => True) (.slice A nl cl) lst) ∧ Hid (Rd lst) := by
          have hq2 : q = 0 ∨ q = 1 := by omega
          rcases hq2 with rfl | rfl
          · exact ⟨F, Af, nf, cf, bl.cell 0, HNf.out, hmx, HP1.out, HRf.out⟩
          · exact ⟨Bk, Ab, nb, cb, bl.cell 1, HNb.out, hmx2, HP2.out, HRb.out⟩
        have lL := bl.lt
        have HB := Lib.hid hb
        clear bl hb
        have hqd : decide ((q : Int) < 2) = true := by simp; omega
        go_wp2
        clear hqd
        go_loopw [56] (fun vi wr => ∃ i : Nat, i ≤ nl ∧ vi = .int .i64 i ∧ Below w3.heap.size w3 wr) (fun i _ => nl - (intOf i).toNat)
        case atStart => exact ⟨0, by omega, rfl, HB.out⟩
        case round =>
          obtain ⟨i, hi, rfl, hb⟩ := hrel
          by_cases hlt : i < nl
          · obtain ⟨bP, oP, cP, eP, _, hbP, hcapP, _, hcP⟩ := (HPv.out).cells (by rw [hln.out]; omega)
            rw [hln.out] at eP hcapP
            injection eP with eA _ eC
            subst eA eC
            obtain ⟨q0, q1, q2, q3⟩ := hcP i (by rw [hln.out]; exact hlt)
            have d0 := (hb.cell (p := ⟨bP, oP + i * 4, none⟩) hbP).trans q0
            have d1 := (hb.cell (p := ⟨bP, oP + i * 4 + 1, none⟩) hbP).trans q1
            have d2 := (hb.cell (p := ⟨bP, oP + i * 4 + 2, none⟩) hbP).trans q2
            have d3 := (hb.cell (p := ⟨bP, oP + i * 4 + 3, none⟩) hbP).trans q3
            have HcP := Lib.hid hcP
            obtain ⟨r1, r2⟩ := hRd.out lst HRd.out
            have HR2 := Lib.hid (r2 i)
            have HR1 := Lib.hid r1
            obtain ⟨m1, m2, m3, m4, m5, m6, m7, m8⟩ := r1 i (by rw [hln.out]; exact hlt)
            obtain ⟨v1, v2, v3, v4⟩ := HWd.out (plN lst i).turn
            have hx := HX3.out.below hb HX3.out.lt
            have hsz := hb.size
            have lbP : bP < wr.heap.size := by omega
            have HB := Lib.hid hb
            have HXr := Lib.hid hx
            have u0 := hx.cell 0
            have u1 := hx.cell 1
            have u2 := hx.cell 2
            have u3 := hx.cell 3
            have u4 := hx.cell 4
            have u5 := hx.cell 5
            have u6 := hx.cell 6
            have u7 := hx.cell 7
            have u8 := hx.cell 8
            have u9 := hx.cell 9
            have u10 := hx.cell 10
            simp only [List.getElem?_toArray, List.getElem?_cons_zero, List.getElem?_cons_succ] at u0 u1 u2 u3 u4 u5 u6 u7 u8 u9 u10
            have lx := hx.lt
            clear q0 q1 q2 q3 hcP r1 r2 hb hx
            generalize hpi : plN lst i = pi at *
            obtain ⟨pp, px, py, pt⟩ := pi
            dsimp only at d0 d1 d2 d3 m1 m2 m3 m4 m5 m6 m7 m8 v1 v2 v3 v4
            have HBx := Lib.hid (fun w => hBox.out ⟨pp, px, py, pt⟩ w m1 m5 m2 m6 m7 m8)
            have HPi := Lib.hid hpi
            clear hpi
            generalize BW pt = bw at *
            generalize BH pt = bh at *
            go_wp2_with fail
            refine (HBx.out _).mono ?_; rintro e w5 ⟨rfl, hb5⟩
            have hbp := HB.out.alloc HB.out.size (Obj.cells #[.int .i64 pp, .int .i64 px, .int .i64 py, .int .i64 pt] 36)
            have hb35 := hbp.trans (hb5.mono (by simp; omega))
            have bX := (Blk.new wr 36 #[.int .i64 pp, .int .i64 px, .int .i64 py, .int .i64 pt]).below hb5 (by simp)
            have bS5 := HbS.out.below hb35 HbS.out.lt
            have s0 := bS5.cell 0
            have s1 := bS5.cell 1
            simp only [List.getElem?_toArray, List.getElem?_cons_zero, List.getElem?_cons_succ] at s0 s1
            have lS5 := bS5.lt
            have HB35 := Lib.hid hb35
            have HbX := Lib.hid bX
            have lwr5 : wr.heap.size < w5.heap.size := bX.lt
            have hBW : Hid (w3.heap.size ≤ wr.heap.size) := hsz
            clear u0 u1 u2 u3 u4 u5 u6 u7 u8 u9 u10 d0 d1 d2 d3 hb5 hbp hb35 bX bS5
            have T1 : decide (px < 0) = false := by simpa using m1
            have T2 : decide (py < 0) = false := by simpa using m2
            have T3 : decide (pw < px + bw) = false := by simpa using m3
            have T4 : decide (ph < py + bh) = false := by simpa using m4
            go_wp2
            clear T1 T2 T3 T4 s0 s1
            obtain ⟨wi, hwi⟩ : ∃ wi : Nat, wi = wr.heap.size := ⟨_, rfl⟩
            rw [← hwi] at HbX lwr5 hBW ⊢
            clear hwi
            go_loopw [91] (fun vj wr => ∃ j : Nat, j ≤ i ∧ vj = .int .i64 j ∧ Blk wr wi 36 #[.int .i64 pp, .int .i64 px, .int .i64 py, .int .i64 pt] ∧ Below w3.heap.size w3 wr) (fun j _ => i - (intOf j).toNat)
            case atStart => exact ⟨0, by omega, rfl, HbX.out, HB35.out⟩
            case round =>
              obtain ⟨j, hj, rfl, hbx, hb⟩ := hrel
              by_cases hlj : j < i
              · obtain ⟨q0, q1, q2, q3⟩ := HcP.out j (by rw [hln.out]; omega)
                have d0 := (hb.cell (p := ⟨bP, oP + j * 4, none⟩) hbP).trans q0
                have d1 := (hb.cell (p := ⟨bP, oP + j * 4 + 1, none⟩) hbP).trans q1
                have d2 := (hb.cell (p := ⟨bP, oP + j * 4 + 2, none⟩) hbP).trans q2
                have d3 := (hb.cell (p := ⟨bP, oP + j * 4 + 3, none⟩) hbP).trans q3
                obtain ⟨a1, a2⟩ := HR2.out j hlj (by rw [hln.out]; exact hlt)
                obtain ⟨k1, k2, k3, k4, k5, k6, k7, k8⟩ := HR1.out j (by rw [hln.out]; omega)
                obtain ⟨f1, f2, f3, f4⟩ := HWd.out (plN lst j).turn
                have hx := HX3.out.below hb HX3.out.lt
                have hszj := hb.size
                have lbPj : bP < wr.heap.size := by omega
                have HBj := Lib.hid hb
                have HbXj := Lib.hid hbx
                have lwi := hbx.lt
                have u0 := hx.cell 0
                have u1 := hx.cell 1
                have u2 := hx.cell 2
                have u3 := hx.cell 3
                have u4 := hx.cell 4
                have u5 := hx.cell 5
                have u6 := hx.cell 6
                have u7 := hx.cell 7
                have u8 := hx.cell 8
                have u9 := hx.cell 9
                have u10 := hx.cell 10
                simp only [List.getElem?_toArray, List.getElem?_cons_zero, List.getElem?_cons_succ] at u0 u1 u2 u3 u4 u5 u6 u7 u8 u9 u10
                have lx2 := hx.lt
                clear q0 q1 q2 q3 hb hx hbx
                generalize plN lst j = qj at *
                obtain ⟨qp, qx, qy, qt⟩ := qj
                dsimp only at d0 d1 d2 d3 a1 a2 k1 k2 k3 k4 k5 k6 k7 k8 f1 f2 f3 f4
                have HBx2 := Lib.hid (fun w => hBox.out ⟨qp, qx, qy, qt⟩ w k1 k5 k2 k6 k7 k8)
                generalize BW qt = dw at *
                generalize BH qt = dh at *
                have hpne : (pp == qp) = false := by simpa using a1
                have HA := Lib.hid a2
                clear a1 a2
                go_wp2_with fail
                refine (HBx2.out _).mono ?_; rintro e w6 ⟨rfl, hb6⟩
                have hbp := HBj.out.alloc HBj.out.size (Obj.cells #[.int .i64 qp, .int .i64 qx, .int .i64 qy, .int .i64 qt] 36)
                have hb36 := hbp.trans (hb6.mono (by simp; omega))
                have bXp := (HbXj.out.alloc (Obj.cells #[.int .i64 qp, .int .i64 qx, .int .i64 qy, .int .i64 qt] 36)).below hb6 (by simp; omega)
                have bXq := (Blk.new wr 36 #[.int .i64 qp, .int .i64 qx, .int .i64 qy, .int .i64 qt]).below hb6 (by simp)
                have z0 := bXp.cell 0
                have z1 := bXq.cell 0
                simp only [List.getElem?_toArray, List.getElem?_cons_zero] at z0 z1
                have lp6 := bXp.lt
                have lq6 := bXq.lt
                have HbXp := Lib.hid bXp
                have HB36 := Lib.hid hb36
                clear u0 u1 u2 u3 u4 u5 u6 u7 u8 u9 u10 d0 d1 d2 d3 hb6 hbp hb36 bXp bXq
                have ha := HA.out
                unfold Apart at ha
                have hcs : (decide (px < qx + dw) = false) ∨ (decide (px < qx + dw) = true ∧ decide (qx < px + bw) = false) ∨ (decide (px < qx + dw) = true ∧ decide (qx < px + bw) = true ∧ decide (py < qy + dh) = false) ∨ (decide (px < qx + dw) = true ∧ decide (qx < px + bw) = true ∧ decide (py < qy + dh) = true ∧ decide (qy < py + bh) = false) := by
                  simp only [decide_eq_true_eq, decide_eq_false_iff_not]; omega
                clear ha
                rcases hcs with h1 | ⟨h1, h2⟩ | ⟨h1, h2, h3⟩ | ⟨h1, h2, h3, h4⟩
                all_goals
                  go_wp2
                  go_roundw
                  case rel => exact ⟨j + 1, by omega, by go_num, HbXp.out, HB36.out⟩
                  case measure => simp [intOf]; omega
              · obtain rfl : j = i := by omega
                have HBj := Lib.hid hb
                clear hb hbx
                go_wp2
                go_roundw
                case rel => first | exact ⟨j + 1, by omega, by go_num, HBj.out⟩ | ((repeat apply Exists.intro); exact ⟨⟨j + 1, by omega, by go_num, HBj.out⟩, rfl⟩)
                case measure => simp [intOf]; omega
          · obtain rfl : i = nl := by omega
            have HBi := Lib.hid hb
            clear hb
            go_wp2
            go_roundw
            case rel => first | exact ⟨q + 1, by omega, by go_num, HBi.out⟩ | ((repeat apply Exists.intro); exact ⟨⟨q + 1, by omega, by go_num, HBi.out⟩, rfl⟩)
            case measure => simp [intOf]; omega
      · obtain rfl : q = 2 := by omega
        have bS := HbS.out.below hb HbS.out.lt
        have s2 := bS.cell 2
        simp only [List.getElem?_toArray, List.getElem?_cons_zero, List.getElem?_cons_succ] at s2
        have lS := bS.lt
        have HB := Lib.hid hb
        clear hb bS
        have hpd : decide (0 < (nf : Int)) = true := by simpa using hpos
        go_wp2
        go_ret
        exact ⟨rfl, HBe.out.trans (HB.out.mono HBe.out.size)⟩
  · have hSh : Hid (∀ (k : Int) (w' : World), Below w.heap.size w w' → Calls Try.prog 10 #[I.val v, .int .i64 k] w' (SheetErr (impZ I l) w')) := fun k w' hb => sheet_bad I v l k w' (SlM.later HI.out hb) hz
    have hz1 : (impZ I l != 0) = true := by simpa using hz
    generalize impZ I l = z at *
    clear hz hI
    unfold LayI.val at *
    obtain ⟨C, R, W, H, hd, fo, sp, mg, cr, sty⟩ := I
    dsimp only at *
    subst ev
    generalize l.length = n at *
    have hb0 := Lib.hid ((Below.refl w.heap.size w).alloc (Nat.le_refl _) (Obj.cells #[.int .i64 C, .int .i64 R, .slice Av n cv, .int .i64 W, .int .i64 H, .int .i64 hd, .int .i64 fo, .int .i64 sp, .int .i64 mg, .int .i64 cr, .int .i64 sty] 26))
    have hbl0 := Lib.hid (Blk.new w 26 #[.int .i64 C, .int .i64 R, .slice Av n cv, .int .i64 W, .int .i64 H, .int .i64 hd, .int .i64 fo, .int .i64 sp, .int .i64 mg, .int .i64 cr, .int .i64 sty])
    go_enter Try.func3, Try.ntmps3
    go_wp2_with fail
    refine (HF.out _).mono ?_; rintro e w1 ⟨rfl, hb1⟩
    have x := hbl0.out.below hb1 hbl0.out.lt
    have HB1 := Lib.hid (hb0.out.trans (hb1.mono hb0.out.size))
    have u0 := x.cell 0
    have u1 := x.cell 1
    have u2 := x.cell 2
    have u3 := x.cell 3
    have u4 := x.cell 4
    have u5 := x.cell 5
    have u6 := x.cell 6
    have u7 := x.cell 7
    have u8 := x.cell 8
    have u9 := x.cell 9
    have u10 := x.cell 10
    simp only [List.getElem?_toArray, List.getElem?_cons_zero, List.getElem?_cons_succ] at u0 u1 u2 u3 u4 u5 u6 u7 u8 u9 u10
    have l1 := x.lt
    clear hb1 x
    go_wp2_with fail
    refine (hSh.out _ _ HB1.out).mono ?_; rintro e w2 ⟨rfl, hb2⟩
    have HB2 := Lib.hid (HB1.out.trans (hb2.mono HB1.out.size))
    clear hb2 u0 u1 u2 u3 u4 u5 u6 u7 u8 u9 u10
    go_wp2
    go_ret
    exact ⟨rfl, HB2.out.alloc HB2.out.size _⟩
end Go.Proofs.Ytjcijogdcafloaa
