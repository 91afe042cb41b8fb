/- The walk of ImposeFewerPages. -/
import Derived.Test.YtjcijogdcafloaaFewC
import Derived.Deep.RegionHeld3
namespace Go.Proofs.Ytjcijogdcafloaa
open Go.RowKit
def FewPost (w : World) (e : Ending) (w' : World) : Prop := e = .returned (.bool true) ∧ Below w.heap.size w w'
set_option maxRecDepth 100000 in
set_option maxHeartbeats 16000000 in
theorem few_any (I : LayI) (v : Value) (l : List Step) (many : Int) (back : Bool) (w : World) (hI : Sv w v l) :
    Calls Try.prog 6 #[I.val v, .int .i64 many, .bool back] w (FewPost w) := by
  have HI := Lib.hid hI
  have HF := Lib.hid imposes_any
  have HPo : Hid (∀ w e w', FewPost w e w' = (e = .returned (.bool true) ∧ Below w.heap.size w w')) := fun _ _ _ => rfl
  obtain ⟨Av, cv, ev⟩ := SlM.form hI
  subst ev
  have HTi : Hid (∀ w, Calls Try.prog 16 #[I.val (.slice Av l.length cv)] w fun e w' => e = .returned (I.small.val (.slice Av l.length cv)) ∧ Below w.heap.size w w') := fun w => tiny_any I Av l.length cv w
  by_cases hz : impZ I.small l = 0
  · obtain ⟨c, r, m, PW, PH, W', H', F1, F2, B1, B2, img, ec, er, c8, r8, hm, hmN, eW, eH, hK⟩ := few_know I Av cv l many back w hI hz
    have HK := Lib.hid hK
    clear hK
    obtain ⟨N, hN⟩ : ∃ N, 2 * (c * r) = N := ⟨_, rfl⟩
    have hcr9 : c * r ≤ 64 := Nat.mul_le_mul c8 r8
    have hN9 : N ≤ 128 := by omega
    have hmul : (2 : Int) * (c : Int) * (r : Int) = (N : Int) := by rw [← hN, Int.mul_assoc]; simp
    rw [hN] at hm hmN HK
    have HWi : Hid (∀ w, Calls Try.prog 19 #[.int .i64 many, .int .i64 0, .int .i64 (N : Int)] w fun e w' => e = .returned (.int .i64 (m : Int)) ∧ w = w') := fun w => by rw [hm]; exact within_any many 0 N w (by omega) (by omega) (by omega)
    have hw4 := HK.out.hW
    have hp4 := HK.out.hP
    have HSA := Lib.hid HK.out.shA
    have HSM := Lib.hid HK.out.shM
    have HPL := Lib.hid HK.out.pl
    have HFL := Lib.hid HK.out.fl
    have HDo : Hid (∀ (i : Nat) (w : World), i < 128 → Calls Try.prog 20 #[.int .i64 (W' : Int), .int .i64 (H' : Int), .int .i64 (i : Int)] w (DotsOk W' H' w)) := fun i w hi => dots_any W' H' i w (by omega) (by omega) (by omega) (by omega)
    have hNm : wi many 0 (N : Int) = (m : Int) := hm.symm
    clear hz hI hN hm
    unfold LayI.small LayI.val at *
    obtain ⟨C, R, W, H, hd, fo, sp, mg, cr, sty⟩ := I
    dsimp only at *
    rw [eW, eH] at HTi HSA HSM HPL HK
    clear eW eH hNm
    generalize wi hd 0 2 = hd' at *
    generalize wi fo 0 2 = fo' at *
    generalize wi sp 0 12 = sp' at *
    generalize wi mg 0 4 = mg' at *
    generalize l.length = n at *
    subst ec er
    have A0 := Lib.hid (ArM.start w #[.int .i64 (c : Int), .int .i64 (r : Int), .slice Av n cv, .int .i64 W, .int .i64 H, .int .i64 hd, .int .i64 fo, .int .i64 sp, .int .i64 mg, .int .i64 cr, .int .i64 sty] many)
    go_enter Try.func6, Try.ntmps6
    go_wp2_with fail
    refine (HF.out _).mono ?_; rintro e w1 ⟨rfl, hb1⟩
    have A1 := Lib.hid (A0.out.later hb1)
    clear hb1
    obtain ⟨xa0, xa1, xa2, xa3, xa4, xa5, xa6, xa7, xa8, xa9, xa10⟩ := lay_cells A1.out.bl
    go_wp2_with fail
    refine (HTi.out _).mono ?_; rintro e w2 ⟨rfl, hb2⟩
    have A2 := Lib.hid (A1.out.later hb2)
    clear hb2 xa0 xa1 xa2 xa3 xa4 xa5 xa6 xa7 xa8 xa9 xa10
    obtain ⟨xa0, xa1, xa2, xa3, xa4, xa5, xa6, xa7, xa8, xa9, xa10⟩ := lay_cells A2.out.bl
    obtain ⟨fa0, fa1, fa2, fa3, fa4, fa5, fa6, fa7, fa8, fa9, fa10⟩ := lay_frozen A2.out.bl
    have lx := A2.out.bl.lt
    have A3 := Lib.hid (A2.out.put11 (b0 := .int .i64 (c : Int)) (b1 := .int .i64 (r : Int)) (b2 := .slice Av n cv) (b3 := .int .i64 (W' : Int)) (b4 := .int .i64 (H' : Int)) (b5 := .int .i64 hd') (b6 := .int .i64 fo') (b7 := .int .i64 sp') (b8 := .int .i64 mg') (b9 := .int .i64 cr) (b10 := .int .i64 sty))
    go_wp2_with fail
    refine (HSA.out _ A3.out.be).mono ?_; rintro e w4 ⟨vf, vb, rfl, hf, hb, hb4⟩
    have A4 := Lib.hid (A3.out.later hb4)
    have HF4 := Lib.hid hf
    have HB4 := Lib.hid hb
    obtain ⟨Af, cf, ef⟩ := hf.form
    obtain ⟨Ab, cb, eb⟩ := hb.form
    subst ef eb
    clear hf hb hb4 xa0 xa1 xa2 xa3 xa4 xa5 xa6 xa7 xa8 xa9 xa10 fa0 fa1 fa2 fa3 fa4 fa5 fa6 fa7 fa8 fa9 fa10 lx
    generalize hnf : (F1 ++ F2).length = nf at *
    generalize hnb : (B1 ++ B2).length = nb at *
    have HNf := Lib.hid hnf
    have HNb := Lib.hid hnb
    clear hnf hnb
    have hal := (Below.refl w4.heap.size w4).alloc (Nat.le_refl _) (Obj.cells #[.int .i64 (PW : Int), .int .i64 (PH : Int), .slice Af nf cf, .slice Ab nb cb] 30)
    have s5 := Blk.new w4 30 #[.int .i64 (PW : Int), .int .i64 (PH : Int), .slice Af nf cf, .slice Ab nb cb]
    have A5 := Lib.hid (A4.out.later hal)
    have xm0 : (w4.alloc (Obj.cells #[.int .i64 (PW : Int), .int .i64 (PH : Int), .slice Af nf cf, .slice Ab nb cb] 30)).cell? ⟨w.heap.size + 1, 0, none⟩ = some (.int .i64 many) := A5.out.bm.cell 0
    have fm0 := A5.out.bm.frozen 0
    have lm := A4.out.bm.lt
    have S5 := Lib.hid s5
    have HF5 : Hid (PlV _ _ _ _) := Lib.hid (SlM.later HF4.out hal)
    have HB5 : Hid (PlV _ _ _ _) := Lib.hid (SlM.later HB4.out hal)
    clear hal s5
    have lm2 : w.heap.size + 1 < w4.heap.size := lm
    have LM2 := Lib.hid lm2
    clear lm2
    go_wp2_with fail
    generalize hwB : w4.alloc (Obj.cells #[.int .i64 (PW : Int), .int .i64 (PH : Int), .slice Af nf cf, .slice Ab nb cb] 30) = wB at *
    clear hwB
    refine (HWi.out _).mono ?_; rintro e w5 ⟨rfl, rfl⟩
    have A6 := Lib.hid (A5.out.many (mv' := m))
    have hs6 := Lib.hid (S5.out.far (p := ⟨w.heap.size + 1, 0, none⟩) (by have := LM2.out; show w4.heap.size ≠ w.heap.size + 1; omega) (.int .i64 (m : Int)))
    have hf6 : Hid (PlV _ _ _ _) := Lib.hid (SlM.far (SlM.mono (ok' := fun b => w.heap.size + 2 ≤ b) HF5.out (fun b hb _ => by have := A3.out.bm.lt; omega)) (p := ⟨w.heap.size + 1, 0, none⟩) (by show ¬ w.heap.size + 2 ≤ _; simp) (.int .i64 (m : Int)))
    have hg6 : Hid (PlV _ _ _ _) := Lib.hid (SlM.far (SlM.mono (ok' := fun b => w.heap.size + 2 ≤ b) HB5.out (fun b hb _ => by have := A3.out.bm.lt; omega)) (p := ⟨w.heap.size + 1, 0, none⟩) (by show ¬ w.heap.size + 2 ≤ _; simp) (.int .i64 (m : Int)))
    obtain ⟨xa0, xa1, xa2, xa3, xa4, xa5, xa6, xa7, xa8, xa9, xa10⟩ := lay_cells A6.out.bl
    go_wp2_with fail
    clear xa0 xa1 xa2 xa3 xa4 xa5 xa6 xa7 xa8 xa9 xa10 xm0 fm0 lm HF5 HB5 S5 HF4 HB4
    refine (HSM.out _ A6.out.be).mono ?_; rintro e w7 ⟨vf2, vb2, rfl, hf, hb, hb7⟩
    have A7 := Lib.hid (A6.out.later hb7)
    have HF7 := Lib.hid hf
    have HB7 := Lib.hid hb
    obtain ⟨Af2, cf2, ef⟩ := hf.form
    obtain ⟨Ab2, cb2, eb⟩ := hb.form
    subst ef eb
    have S7 := Lib.hid (hs6.out.below hb7 hs6.out.lt)
    have GF7 : Hid (PlV _ _ _ _) := Lib.hid (SlM.later hf6.out hb7)
    have GB7 : Hid (PlV _ _ _ _) := Lib.hid (SlM.later hg6.out hb7)
    clear hf hb hb7 hs6 hf6 hg6
    generalize hnf : F1.length = nf2 at *
    generalize hnb : B1.length = nb2 at *
    have HNf2 := Lib.hid hnf
    have HNb2 := Lib.hid hnb
    clear hnf hnb
    go_wp2_with fail
    have hal := (Below.refl w7.heap.size w7).alloc (Nat.le_refl _) (Obj.cells #[.int .i64 (PW : Int), .int .i64 (PH : Int), .slice Af2 nf2 cf2, .slice Ab2 nb2 cb2] 30)
    have s10 := Blk.new w7 30 #[.int .i64 (PW : Int), .int .i64 (PH : Int), .slice Af2 nf2 cf2, .slice Ab2 nb2 cb2]
    have s8 := S7.out.below hal S7.out.lt
    have a8 := A7.out.later hal
    have p1 : PlV _ _ _ _ := SlM.later GF7.out hal
    have p2 : PlV _ _ _ _ := SlM.later GB7.out hal
    have p3 : PlV _ _ _ _ := SlM.later HF7.out hal
    have p4 : PlV _ _ _ _ := SlM.later HB7.out hal
    generalize w7.alloc (Obj.cells #[.int .i64 (PW : Int), .int .i64 (PH : Int), .slice Af2 nf2 cf2, .slice Ab2 nb2 cb2] 30) = w8 at *
    have A8 := Lib.hid a8
    have S8 := Lib.hid s8
    have S10 := Lib.hid s10
    have P1 : Hid (PlV _ _ _ _) := Lib.hid p1
    have P2 : Hid (PlV _ _ _ _) := Lib.hid p2
    have P3 : Hid (PlV _ _ _ _) := Lib.hid p3
    have P4 : Hid (PlV _ _ _ _) := Lib.hid p4
    clear hal s10 s8 a8 p1 p2 p3 p4 A7 S7 GF7 GB7 HF7 HB7 A6 A5 A4 A3 A2 A1 A0 LM2
    generalize w4.heap.size = q8 at *
    generalize w7.heap.size = q10 at *
    obtain ⟨wh, hwh⟩ : ∃ wh, W' * H' = wh := ⟨_, rfl⟩
    have hwh9 : wh ≤ 36 := by rw [← hwh]; exact Nat.mul_le_mul hw4.2.1 hw4.2.2.2
    have hmulW : (W' : Int) * (H' : Int) = (wh : Int) := by rw [← hwh]; simp
    have HWh := Lib.hid hwh
    clear hwh
    have lx8 := A8.out.bl.lt
    have lm8 := A8.out.bm.lt
    go_loopw [11, 12, 54] (fun v11 v12 v54 wr => ∃ (i : Nat) (vals : List Value) (pages : List (List UInt8)), v54 = .int .i64 (i : Int) ∧ i ≤ N ∧ TwoR w8.heap.size W' H' m wr v11 v12 vals pages i ∧ Below w8.heap.size w8 wr) (fun _ _ v54 _ => N - (intOf v54).toNat)
    case atStart =>
      refine ⟨0, [], [], rfl, by omega, ⟨rfl, rfl, ⟨by rw [List.take_nil]; exact World.ownsRow_nil _ _ _ _, World.ownsRow_nil _ _ _ _, fun k hk => by cases hk⟩, fun j hj => by omega, fun j hj => by omega, fun j _ hj => by omega⟩, Below.refl _ _⟩
    case round =>
      obtain ⟨i, vals, pages, rfl, hi, hT, hb⟩ := hrel
      by_cases hin : i < N
      · have AR := Lib.hid (A8.out.later hb)
        have HT := Lib.hid hT
        have HBr := Lib.hid hb
        clear hT hb
        obtain ⟨_, _, _, xa3, xa4, _⟩ := lay_cells AR.out.bl
        obtain ⟨cs, hcs, hmk⟩ : ∃ cs : Array Value, Hid (cs = (List.replicate wh (Value.int .u8 0)).toArray) ∧ ∀ W : World, (Instr.makeSlice 50 (.int .i64 (wh : Int)) (.int .i64 (wh : Int))).run Try.prog W = .ok (.slice (some ⟨W.heap.size, 0, none⟩) wh wh) (W.alloc (.cells cs 5)) := ⟨_, rfl, run_make1 eByte rfl wh (wh : Int) rfl (by omega) (by omega)⟩
        have lxr := AR.out.bl.lt
        go_upto_region 14 with (fail)
        go_cut [14] (fun v14 wx => ∃ (b14 g : Nat), v14 = .pointer (some ⟨b14, 0, none⟩) ∧ Blk wx b14 52 #[.int .i64 (W' : Int), .int .i64 (H' : Int), .slice (some ⟨g, 0, none⟩) wh wh] ∧ Sl wx (fun b => wr.heap.size ≤ b ∧ b ≠ b14) (.slice (some ⟨g, 0, none⟩) wh wh) (byts (List.replicate wh 0)) ∧ wr.heap.size ≤ b14 ∧ Below wr.heap.size wr wx)
        case first =>
          go_region
          · go_wp2
            go_meet
            exact ⟨_, _, rfl, zp_a wr hcs.out (by omega)⟩
          · go_wp2
            go_meet
            exact ⟨_, _, rfl, zp_b wr hcs.out (by omega)⟩
        case rest =>
        obtain ⟨b14, g, rfl, hbp, hsp, hb14, hbe⟩ := hcut
        have AC := Lib.hid (AR.out.later hbe)
        have HBP := Lib.hid hbp
        have HSP := Lib.hid hsp
        have HBE := Lib.hid hbe
        have hbl := hbp.lt
        clear xa3 xa4 hmk hbp hsp hbe lxr
        obtain ⟨_, _, _, xa3, xa4, _⟩ := lay_cells AC.out.bl
        have xm0 : wc.cell? ⟨w.heap.size + 1, 0, none⟩ = some (.int .i64 (m : Int)) := AC.out.bm.cell 0
        by_cases him : i < m
        · go_wp2_with fail
          refine (HDo.out i _ (by omega)).mono ?_; rintro e w9 ⟨lp, vp, hlp, rfl, hop, hb9⟩
          rw [hlp, HWh.out] at hop
          obtain ⟨Ap, cp, rfl⟩ := own_form hop
          have HLP := Lib.hid (hlp.trans HWh.out)
          have z9 := HBP.out.below hb9 HBP.out.lt
          obtain ⟨z0, z1, z2⟩ := three_cells z9
          have f0 := z9.frozen 0
          have f1 := z9.frozen 1
          have f2 := z9.frozen 2
          have lz := z9.lt
          obtain ⟨pa, pb, pc⟩ := plate_put (W := W') (H := H') (wr := wr) z9 ((Sl.of_own hop).mono (ok' := fun b => wc.heap.size ≤ b) fun _ _ h => h.2) hb14 hbl (HBE.out.trans (hb9.mono HBE.out.size))
          have HPa := Lib.hid pa
          have HPb := Lib.hid pb
          have HPc := Lib.hid pc
          clear hlp hop hb9 z9 pa pb pc
          go_upto_region 17 with (fail)
          generalize hwd : ((w9.setCell ⟨b14, 0, none⟩ (.int .i64 (W' : Int))).setCell ⟨b14, 1, none⟩ (.int .i64 (H' : Int))).setCell ⟨b14, 2, none⟩ (.slice Ap wh cp) = wd at *
          clear hwd z0 z1 z2 f0 f1 f2 lz
          obtain ⟨tq, pq⟩ := HT.out.off HPc.out HPb.out
          have HTo := Lib.hid tq
          have HPo2 := Lib.hid pq
          have hof := tq.me.oF
          rw [List.take_of_length_le (by rw [HT.out.len]; omega), HT.out.len] at hof
          have HOf := Lib.hid hof
          have AD := Lib.hid (AR.out.later HPc.out)
          have hsd := HPc.out.size
          have hbr := HBr.out.size
          obtain ⟨y0, y1, y2⟩ := three_cells HPa.out
          have ly := HPa.out.lt
          clear tq pq hof
          have hbal := (Below.refl wd.heap.size wd).alloc (Nat.le_refl _) (Obj.cells #[.int .i64 (W' : Int), .int .i64 (H' : Int), .slice Ap wh cp] 52)
          go_wp2_with (first | (at_builtin; refine wpList_pushk ePlt rfl (.tmp 77) (.tmp 79) rfl w8.heap.size u11 i (plateCells W' H' vals) rfl (own_below HOf.out hbal) ⟨wd.heap.size, 0, none⟩ 1 [.int .i64 (W' : Int), .int .i64 (H' : Int), .slice Ap wh cp] rfl rfl (news_new wd _ [.int .i64 (W' : Int), .int .i64 (H' : Int), .slice Ap wh cp] _ rfl) (by simp [Value.oneCell']) (by omega) (by omega) (by omega) (by simp; omega) ?_; intro v11 w11 ho11 hg11 hk11; have gb1 := HBr.out.trans (HPc.out.mono hbr); have gb2 := (gb1.alloc gb1.size (Obj.cells #[.int .i64 (W' : Int), .int .i64 (H' : Int), .slice Ap wh cp] 52)).grown hg11 (by have := gb1.size; simp; omega) (fun k hk => (own_lt HOf.out k hk).1); have z9 := (HPa.out.alloc (Obj.cells #[.int .i64 (W' : Int), .int .i64 (H' : Int), .slice Ap wh cp] 52)).grown hg11 (own_new HT.out.me.oF hb14); obtain ⟨z0, z1, z2⟩ := three_cells z9; obtain ⟨hm11, hx11, hv11⟩ := HTo.out.fst him HPo2.out _ ho11 hg11 hk11; have Hm11 := Lib.hid hm11; have Hx11 := Lib.hid hx11; have Hv11 := Lib.hid hv11; have Hb11 := Lib.hid gb2; have hoA := hm11.oA; rw [HT.out.len] at hoA; have HoA := Lib.hid hoA; have hbal2 := (Below.refl w11.heap.size w11).alloc (Nat.le_refl _) (Obj.cells #[.int .i64 (W' : Int), .int .i64 (H' : Int), .slice Ap wh cp] 52); have hs11 := gb2.size; clear ho11 hg11 hk11 gb1 gb2 z9 hm11 hx11 hv11 hoA y0 y1 y2) | (at_builtin; refine wpList_pushk ePlt rfl (.tmp 81) (.tmp 83) rfl w8.heap.size u12 i (plateCells W' H' vals) rfl (own_below HoA.out hbal2) ⟨w11.heap.size, 0, none⟩ 1 [.int .i64 (W' : Int), .int .i64 (H' : Int), .slice Ap wh cp] rfl rfl (news_new w11 _ [.int .i64 (W' : Int), .int .i64 (H' : Int), .slice Ap wh cp] _ rfl) (by simp [Value.oneCell']) (by omega) (by omega) (by omega) (by simp; omega) ?_; intro v12 w12 ho12 hg12 hk12; have gb2 := (Hb11.out.alloc hs11 (Obj.cells #[.int .i64 (W' : Int), .int .i64 (H' : Int), .slice Ap wh cp] 52)).grown hg12 (by simp; omega) (fun k hk => (own_lt HoA.out k hk).1); have HB12 := Lib.hid gb2; have HT12 := Lib.hid (HT.out.both him (HLP.out.trans HWh.out.symm) Hm11.out Hx11.out Hv11.out _ ho12 hg12 hk12); clear ho12 hg12 hk12 gb2))
          go_roundw
          case rel => exact ⟨i + 1, _, _, by go_num, by omega, HT12.out, HB12.out⟩
          case measure => simp [intOf]; omega
        · obtain ⟨tq, pq⟩ := HT.out.off HBE.out (HSP.out.mono fun _ _ h => h.1)
          have HTo := Lib.hid tq
          have pq2 : Sl wc (Off u11 u12) (.slice (some ⟨g, 0, none⟩) wh wh) (byts (List.replicate (W' * H') 0)) := by rw [HWh.out]; exact pq
          have HPo2 := Lib.hid pq2
          have hoA := tq.me.oA
          rw [HT.out.len] at hoA
          have HoA := Lib.hid hoA
          have hsd := HBE.out.size
          have hbr := HBr.out.size
          obtain ⟨y0, y1, y2⟩ := three_cells HBP.out
          clear tq pq pq2 hoA
          have hbal2 := (Below.refl wc.heap.size wc).alloc (Nat.le_refl _) (Obj.cells #[.int .i64 (W' : Int), .int .i64 (H' : Int), .slice (some ⟨g, 0, none⟩) wh wh] 52)
          have gb1 := HBr.out.trans (HBE.out.mono hbr)
          have Hb11 := Lib.hid gb1
          have hs11 := gb1.size
          clear gb1
          go_wp2_with (at_builtin; refine wpList_pushk ePlt rfl (.tmp 81) (.tmp 83) rfl w8.heap.size u12 i (plateCells W' H' vals) rfl (own_below HoA.out hbal2) ⟨wc.heap.size, 0, none⟩ 1 [.int .i64 (W' : Int), .int .i64 (H' : Int), .slice (some ⟨g, 0, none⟩) wh wh] rfl rfl (news_new wc _ [.int .i64 (W' : Int), .int .i64 (H' : Int), .slice (some ⟨g, 0, none⟩) wh wh] _ rfl) (by simp [Value.oneCell']) (by omega) (by omega) (by omega) (by simp; omega) ?_; intro v12 w12 ho12 hg12 hk12; have gb2 := (Hb11.out.alloc hs11 (Obj.cells #[.int .i64 (W' : Int), .int .i64 (H' : Int), .slice (some ⟨g, 0, none⟩) wh wh] 52)).grown hg12 (by simp; omega) (fun k hk => (own_lt HoA.out k hk).1); have HB12 := Lib.hid gb2; have HT12 := Lib.hid (HTo.out.snd (by omega) HPo2.out _ ho12 hg12 hk12); clear ho12 hg12 hk12 gb2)
          go_roundw
          case rel => exact ⟨i + 1, _, _, by go_num, by omega, HT12.out, HB12.out⟩
          case measure => simp [intOf]; omega
      · obtain rfl : i = N := by omega
        have HPA := Lib.hid hT.pgA
        have HPF := Lib.hid (hT.pgF hmN)
        have hpl : pages.length = i := hT.plen
        have hpl2 : (pages.take m).length = m := by rw [List.length_take, hpl]; omega
        have HIm := Lib.hid (HK.out.im pages hpl hT.zr)
        have HIl := Lib.hid (HK.out.il pages)
        have HPl1 := Lib.hid hpl
        have HPl2 := Lib.hid hpl2
        have AR := Lib.hid (A8.out.later hb)
        have S8r := Lib.hid (S8.out.below hb S8.out.lt)
        have S10r := Lib.hid (S10.out.below hb S10.out.lt)
        have P1r : Hid (PlV _ _ _ _) := Lib.hid (SlM.later P1.out hb)
        have P2r : Hid (PlV _ _ _ _) := Lib.hid (SlM.later P2.out hb)
        have P3r : Hid (PlV _ _ _ _) := Lib.hid (SlM.later P3.out hb)
        have P4r : Hid (PlV _ _ _ _) := Lib.hid (SlM.later P4.out hb)
        clear hT hb hpl hpl2 hmulW
        obtain ⟨xa0, xa1, xa2, xa3, xa4, xa5, xa6, xa7, xa8, xa9, xa10⟩ := lay_cells AR.out.bl
        go_wp2_with fail
        refine (HPL.out _ _ _ _ AR.out.be HPF.out (by rw [HPl2.out]; exact hmN)).mono ?_; rintro e wp ⟨vp, rfl, hop, hbp⟩
        have hil : (img (pages.take m)).length = PW * PH := by rw [HIm.out]; exact HIl.out
        obtain ⟨wpx, hwpx⟩ : ∃ k, PW * PH = k := ⟨_, rfl⟩
        have hpx9 : wpx ≤ 1048576 := by rw [← hwpx]; exact Nat.mul_le_mul hp4.2.1 hp4.2.2.2
        rw [hil, hwpx] at hop
        rw [hwpx] at HIl
        obtain ⟨Ap, cp, rfl⟩ := own_form hop
        have SP := Lib.hid ((Sl.of_own hop).mono (ok' := fun _ => True) fun _ _ _ => trivial)
        have AR2 := Lib.hid (AR.out.later hbp)
        have S8q := Lib.hid (S8r.out.below hbp S8r.out.lt)
        have S10q := Lib.hid (S10r.out.below hbp S10r.out.lt)
        have P1q : Hid (PlV _ _ _ _) := Lib.hid (SlM.later P1r.out hbp)
        have P2q : Hid (PlV _ _ _ _) := Lib.hid (SlM.later P2r.out hbp)
        have P3q : Hid (PlV _ _ _ _) := Lib.hid (SlM.later P3r.out hbp)
        have P4q : Hid (PlV _ _ _ _) := Lib.hid (SlM.later P4r.out hbp)
        have PAq := Lib.hid (HPA.out.later hbp)
        clear hop hbp hil xa0 xa1 xa2 xa3 xa4 xa5 xa6 xa7 xa8 xa9 xa10 S8r S10r P1r P2r P3r P4r HPA HPF S8 S10 P1 P2 P3 P4
        have hal := (Below.refl wp.heap.size wp).alloc (Nat.le_refl _) (Obj.cells #[.int .i64 (PW : Int), .int .i64 (PH : Int), .slice Ap wpx cp] 52)
        have a3 := AR2.out.later hal
        have s15 := Blk.new wp 52 #[.int .i64 (PW : Int), .int .i64 (PH : Int), .slice Ap wpx cp]
        have s8 := S8q.out.below hal S8q.out.lt
        have s10 := S10q.out.below hal S10q.out.lt
        have p1 : PlV _ _ _ _ := SlM.later P1q.out hal
        have p2 : PlV _ _ _ _ := SlM.later P2q.out hal
        have p3 : PlV _ _ _ _ := SlM.later P3q.out hal
        have p4 : PlV _ _ _ _ := SlM.later P4q.out hal
        have pA := PAq.out.later hal
        have sps := SP.out.later hal
        clear hwpx
        obtain ⟨xa0, xa1, xa2, xa3, xa4, xa5, xa6, xa7, xa8, xa9, xa10⟩ := lay_cells a3.bl
        go_wp2_with fail
        generalize wp.alloc (Obj.cells #[.int .i64 (PW : Int), .int .i64 (PH : Int), .slice Ap wpx cp] 52) = wq at *
        have A3q := Lib.hid a3
        have S15 := Lib.hid s15
        have S8z := Lib.hid s8
        have S10z := Lib.hid s10
        have P1z : Hid (PlV _ _ _ _) := Lib.hid p1
        have P2z : Hid (PlV _ _ _ _) := Lib.hid p2
        have P3z : Hid (PlV _ _ _ _) := Lib.hid p3
        have P4z : Hid (PlV _ _ _ _) := Lib.hid p4
        have SPz := Lib.hid sps
        have PAz := Lib.hid pA
        clear hal a3 s15 s8 s10 p1 p2 p3 p4 sps pA AR2 S8q S10q P1q P2q P3q P4q PAq SP
        refine (HPL.out _ _ _ _ A3q.out.be PAz.out (by rw [HPl1.out]; exact Nat.le_refl _)).mono ?_; rintro e wv ⟨vv, rfl, hop, hbp⟩
        rw [HIl.out] at hop
        obtain ⟨Av2, cv2, rfl⟩ := own_form hop
        have hal := (Below.refl wv.heap.size wv).alloc (Nat.le_refl _) (Obj.cells #[.int .i64 (PW : Int), .int .i64 (PH : Int), .slice Av2 wpx cv2] 52)
        have s17 := Blk.new wv 52 #[.int .i64 (PW : Int), .int .i64 (PH : Int), .slice Av2 wpx cv2]
        have a4 := (A3q.out.later hbp).later hal
        have s15 := (S15.out.below hbp S15.out.lt).alloc (Obj.cells #[.int .i64 (PW : Int), .int .i64 (PH : Int), .slice Av2 wpx cv2] 52)
        have s8 := (S8z.out.below hbp S8z.out.lt).alloc (Obj.cells #[.int .i64 (PW : Int), .int .i64 (PH : Int), .slice Av2 wpx cv2] 52)
        have s10 := (S10z.out.below hbp S10z.out.lt).alloc (Obj.cells #[.int .i64 (PW : Int), .int .i64 (PH : Int), .slice Av2 wpx cv2] 52)
        have p1 : PlV _ _ _ _ := SlM.later (SlM.later P1z.out hbp) hal
        have p2 : PlV _ _ _ _ := SlM.later (SlM.later P2z.out hbp) hal
        have p3 : PlV _ _ _ _ := SlM.later (SlM.later P3z.out hbp) hal
        have p4 : PlV _ _ _ _ := SlM.later (SlM.later P4z.out hbp) hal
        have sa := (SPz.out.later hbp).later hal
        have sb := ((Sl.of_own hop).mono (ok' := fun _ => True) fun _ _ _ => trivial).later hal
        rw [HIm.out] at sa
        clear xa0 xa1 xa2 xa3 xa4 xa5 xa6 xa7 xa8 xa9 xa10
        go_upto_region 23 with (fail)
        generalize wv.alloc (Obj.cells #[.int .i64 (PW : Int), .int .i64 (PH : Int), .slice Av2 wpx cv2] 52) = wz at *
        have HKp : Hid (∀ w', Below wz.heap.size wz w' → (w'.cell? ⟨wp.heap.size, 0, none⟩ = some (.int .i64 (PW : Int)) ∧ w'.cell? ⟨wp.heap.size, 1, none⟩ = some (.int .i64 (PH : Int)) ∧ w'.cell? ⟨wp.heap.size, 2, none⟩ = some (.slice Ap wpx cp) ∧ w'.cell? ⟨wv.heap.size, 0, none⟩ = some (.int .i64 (PW : Int)) ∧ w'.cell? ⟨wv.heap.size, 1, none⟩ = some (.int .i64 (PH : Int)) ∧ w'.cell? ⟨wv.heap.size, 2, none⟩ = some (.slice Av2 wpx cv2) ∧ w'.cell? ⟨q10, 2, none⟩ = some (.slice Af2 nf2 cf2) ∧ w'.cell? ⟨q10, 3, none⟩ = some (.slice Ab2 nb2 cb2) ∧ w'.cell? ⟨q8, 2, none⟩ = some (.slice Af nf cf) ∧ w'.cell? ⟨q8, 3, none⟩ = some (.slice Ab nb cb) ∧ Below wz.heap.size wz w')) := fun w' h => by
          have t15 := s15.below h s15.lt
          have t17 := s17.below h s17.lt
          have t8 := s8.below h s8.lt
          have t10 := s10.below h s10.lt
          exact ⟨t15.cell 0, t15.cell 1, t15.cell 2, t17.cell 0, t17.cell 1, t17.cell 2, t10.cell 2, t10.cell 3, t8.cell 2, t8.cell 3, h⟩
        have HE := Lib.hid (end_know wz (w.heap.size + 1) m a4.bm)
        have HCl := Lib.hid HE.out.cl
        have HDe := Lib.hid HE.out.de
        have HEq := Lib.hid HE.out.eq
        have HSa : Hid (∀ w', Below wz.heap.size wz w' → Calls Try.prog 22 #[.agg #[.int .i64 (PW : Int), .int .i64 (PH : Int), .slice Ap wpx cp], .agg #[.int .i64 (PW : Int), .int .i64 (PH : Int), .slice Av2 wpx cv2]] w' fun e w'' => e = .returned (.bool true) ∧ Below wz.heap.size wz w'') := fun w' h => (same_plate PW PH _ _ (img pages) _ _ w' (sa.later h) (sb.later h) (by rw [HIl.out]; omega)).mono fun e w'' ⟨he, hb2⟩ => ⟨he, h.trans (hb2.mono h.size)⟩
        have i1 : PlaIn wz (.slice Af nf cf) (F1 ++ F2) := ⟨⟨_, p1⟩, by have := HFL.out.1; rw [HNf.out]; exact this⟩
        have i2 : PlaIn wz (.slice Ab nb cb) (B1 ++ B2) := ⟨⟨_, p2⟩, by have := HFL.out.2; rw [HNb.out]; exact this⟩
        have i3 : PlaIn wz (.slice Af2 nf2 cf2) F1 := ⟨⟨_, p3⟩, by have := HFL.out.1; have e := HNf.out; rw [List.length_append] at e; omega⟩
        have i4 : PlaIn wz (.slice Ab2 nb2 cb2) B1 := ⟨⟨_, p4⟩, by have := HFL.out.2; have e := HNb.out; rw [List.length_append] at e; omega⟩
        have l1 : Late m (F1 ++ F2) F1 := ⟨F2, rfl, HK.out.f1, HK.out.f2⟩
        have l2 : Late m (B1 ++ B2) B1 := ⟨B2, rfl, HK.out.b1, HK.out.b2⟩
        have HBz := Lib.hid a4.be
        clear hop hbp hal s17 a4 s15 s8 s10 p1 p2 p3 p4 sa sb HE HK HSA HSM HPL HDo HTi HWi A3q S15 S8z S10z P1z P2z P3z P4z SPz PAz A8 AR
        generalize F1 ++ F2 = Fa at *
        generalize B1 ++ B2 = Ba at *
        go_region_held3 (fun w' => w'.cell? ⟨wp.heap.size, 0, none⟩ = some (.int .i64 (PW : Int)) ∧ w'.cell? ⟨wp.heap.size, 1, none⟩ = some (.int .i64 (PH : Int)) ∧ w'.cell? ⟨wp.heap.size, 2, none⟩ = some (.slice Ap wpx cp) ∧ w'.cell? ⟨wv.heap.size, 0, none⟩ = some (.int .i64 (PW : Int)) ∧ w'.cell? ⟨wv.heap.size, 1, none⟩ = some (.int .i64 (PH : Int)) ∧ w'.cell? ⟨wv.heap.size, 2, none⟩ = some (.slice Av2 wpx cv2) ∧ w'.cell? ⟨q10, 2, none⟩ = some (.slice Af2 nf2 cf2) ∧ w'.cell? ⟨q10, 3, none⟩ = some (.slice Ab2 nb2 cb2) ∧ w'.cell? ⟨q8, 2, none⟩ = some (.slice Af nf cf) ∧ w'.cell? ⟨q8, 3, none⟩ = some (.slice Ab nb cb) ∧ Below wz.heap.size wz w')
          (first | exact HKp.out _ (Below.refl _ _).drew | exact HKp.out _ (by assumption))
          (first
            | (go_at_call 22; refine (HSa.out _ (by first | exact (Below.refl _ _).drew | assumption)).mono ?_; rintro e wa1 ⟨rfl, ha1⟩)
            | (go_at_call 25; refine (HCl.out _ _ _ (by assumption) (by assumption)).mono ?_; rintro e wa2 ⟨va2, rfl, ho2, ha2⟩)
            | (go_at_call 24; refine (HDe.out _ _ _ _ (by assumption) (by assumption) (by assumption)).mono ?_; rintro e wa3 ⟨va3, rfl, ho3, ha3⟩)
            | (go_at_call 23; refine (HEq.out _ _ _ _ (by assumption) (by assumption) (by assumption)).mono ?_; rintro e wa4 ⟨rfl, ha4⟩))
        go_wp2
        go_ret
        rw [HPo.out]
        exact ⟨rfl, HBz.out.trans (ha4.mono HBz.out.size)⟩
  · have HSb : Hid (∀ k w', Below w.heap.size w w' → Calls Try.prog 10 #[I.small.val (.slice Av l.length cv), .int .i64 k] w' (SheetErr (impZ I.small l) w')) := fun k w' hb => sheet_bad I.small _ l k w' (SlM.later HI.out hb) hz
    have hzn : (impZ I.small l != 0) = true := by simpa using hz
    have hzb : (impZ I.small l == 0) = false := by simpa using hz
    clear hI hz
    generalize impZ I.small l = z at *
    unfold LayI.small LayI.val at *
    obtain ⟨C, R, W, H, hd, fo, sp, mg, cr, sty⟩ := I
    dsimp only at *
    generalize wi W 1 6 = W' at *
    generalize wi H 1 6 = H' at *
    generalize wi hd 0 2 = hd' at *
    generalize wi fo 0 2 = fo' at *
    generalize wi sp 0 12 = sp' at *
    generalize wi mg 0 4 = mg' at *
    generalize l.length = n at *
    have A0 := Lib.hid (ArM.start w #[.int .i64 C, .int .i64 R, .slice Av n cv, .int .i64 W, .int .i64 H, .int .i64 hd, .int .i64 fo, .int .i64 sp, .int .i64 mg, .int .i64 cr, .int .i64 sty] many)
    go_enter Try.func6, Try.ntmps6
    go_wp2_with fail
    refine (HF.out _).mono ?_; rintro e w1 ⟨rfl, hb1⟩
    have A1 := Lib.hid (A0.out.later hb1)
    clear hb1
    obtain ⟨xa0, xa1, xa2, xa3, xa4, xa5, xa6, xa7, xa8, xa9, xa10⟩ := lay_cells A1.out.bl
    go_wp2_with fail
    refine (HTi.out _).mono ?_; rintro e w2 ⟨rfl, hb2⟩
    have A2 := Lib.hid (A1.out.later hb2)
    clear hb2 xa0 xa1 xa2 xa3 xa4 xa5 xa6 xa7 xa8 xa9 xa10
    obtain ⟨xa0, xa1, xa2, xa3, xa4, xa5, xa6, xa7, xa8, xa9, xa10⟩ := lay_cells A2.out.bl
    obtain ⟨fa0, fa1, fa2, fa3, fa4, fa5, fa6, fa7, fa8, fa9, fa10⟩ := lay_frozen A2.out.bl
    have lx := A2.out.bl.lt
    have A3 := Lib.hid (A2.out.put11 (b0 := .int .i64 C) (b1 := .int .i64 R) (b2 := .slice Av n cv) (b3 := .int .i64 W') (b4 := .int .i64 H') (b5 := .int .i64 hd') (b6 := .int .i64 fo') (b7 := .int .i64 sp') (b8 := .int .i64 mg') (b9 := .int .i64 cr) (b10 := .int .i64 sty))
    go_wp2_with fail
    refine (HSb.out _ _ A3.out.be).mono ?_; rintro e w4 ⟨rfl, hb4⟩
    have HB4 := Lib.hid (A3.out.later hb4).be
    clear hb4 xa0 xa1 xa2 xa3 xa4 xa5 xa6 xa7 xa8 xa9 xa10 fa0 fa1 fa2 fa3 fa4 fa5 fa6 fa7 fa8 fa9 fa10 lx
    go_wp2
    go_ret
    rw [HPo.out]
    exact ⟨rfl, HB4.out.alloc HB4.out.size _⟩
end Go.Proofs.Ytjcijogdcafloaa
