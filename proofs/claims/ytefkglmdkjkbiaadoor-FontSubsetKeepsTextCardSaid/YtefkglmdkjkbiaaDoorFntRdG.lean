/- The walk of the unpacker's glyph. -/
import Derived.Test.YtefkglmdkjkbiaaDoorFntPush
import Derived.Test.YtefkglmdkjkbiaaDoorFntGl2
import Derived.IntWalk
namespace Go.Proofs.YtefkglmdkjkbiaaDoor
open Go.RowKit Fnt
theorem ePt : ElemK Tryd.prog 61 64 (.agg #[.int .i64 0, .int .i64 0, .bool false]) 3 24 := ElemK.mk_ Tryd.underlying61 (by kernel_rfl) rfl
theorem ePa : ElemK Tryd.prog 82 103 (.agg #[.int .i64 0, .int .i64 0, .int .i64 0]) 3 24 := ElemK.mk_ Tryd.underlying82 (by kernel_rfl) rfl
theorem eCo : ElemT Tryd.prog 57 61 (.slice none 0 0) 24 := ElemT.mk_ Tryd.underlying57 (by kernel_rfl) rfl
theorem getV1 (u : Up) : 0 ≤ getV 1 u ∧ getV 1 u ≤ 255 := by
  unfold getV
  split
  · omega
  · have := beVal_bd (u.s.take 1)
    have hl : (u.s.take 1).length = 1 := by rw [List.length_take]; omega
    rw [hl] at this
    omega
theorem getU_bad (k : Nat) (u : Up) : (getU k u).s.length ≤ u.s.length := getU_len k u
def GlPost (u : Up) (b : Nat) (w : World) (e : Ending) (w' : World) : Prop :=
  ∃ cv pv, e = .returned (.agg #[.int .i64 (rdGl u).1.adv, cv, pv]) ∧ Cons w' (fun k => w.heap.size ≤ k) cv (rdGl u).1.cs ∧ Pas w' (fun k => w.heap.size ≤ k) pv (rdGl u).1.ps ∧ UpM w' b (rdGl u).2 ∧ (rdGl u).2.s.length ≤ u.s.length ∧ FrS w.heap.size (fun k => k = b) w w'
theorem rdPts_len : ∀ (n : Nat) (u : Up), (rdPts n u).2.s.length ≤ u.s.length
  | 0, _ => Nat.le_refl _
  | n + 1, u => by
    unfold rdPts
    split
    · exact Nat.le_refl _
    · refine Nat.le_trans (rdPts_len n _) ?_
      unfold rdPtU
      exact Nat.le_trans (getU_len _ _) (Nat.le_trans (getU_len _ _) (getU_len _ _))
set_option maxRecDepth 100000 in
set_option maxHeartbeats 8000000 in
theorem rdGl_any (u : Up) (b : Nat) (w : World) (h : UpM w b u) (hl : u.s.length ≤ 1000000) :
    Calls Tryd.prog 40 #[.pointer (some ⟨b, 0, none⟩)] w (GlPost u b w) := by
  have hbw : b < w.heap.size := Blk.lt h
  have hb1 := (FrS.refl w.heap.size (fun k => k = b) w).alloc (Nat.le_refl _) (.cells #[.int .i64 0, .slice none 0 0, .slice none 0 0] 84)
  have hm1 : UpM (w.alloc (.cells #[.int .i64 0, .slice none 0 0, .slice none 0 0] 84)) b u := Blk.alloc h _
  have hr1 := Blk.new w 84 #[.int .i64 0, .slice none 0 0, .slice none 0 0]
  have HG1 := Lib.hid (get_any 2 u b _ hm1 hl (by omega))
  rw [show ((2 : Nat) : Int) = 2 from rfl] at HG1
  generalize hw1 : w.alloc (.cells #[.int .i64 0, .slice none 0 0, .slice none 0 0] 84) = w1 at *
  have hz1 : Hid (w1.heap.size = w.heap.size + 1) := by unfold Hid; rw [← hw1]; simp
  have HB1 := Lib.hid hb1
  have HR1 := Lib.hid hr1
  clear hb1 hm1 hr1 h
  go_enter Tryd.func40, Tryd.ntmps40
  go_wp2_with fail
  refine HG1.out.mono ?_
  rintro e w2 ⟨rfl, hm2, hf2⟩
  have hz2 : Hid (w2.heap.size = w.heap.size + 1) := hf2.size.trans hz1.out
  have HG2 := Lib.hid (get_any 1 (getU 2 u) b (w2.alloc (.cells #[.int .i64 (getV 2 u), .slice none 0 0, .slice none 0 0] 84)) (Blk.alloc hm2 _) (Nat.le_trans (getU_len _ _) hl) (by omega))
  have hg3 := Blk.new w2 84 #[.int .i64 (getV 2 u), .slice none 0 0, .slice none 0 0]
  have hb3 := (HB1.out.trans (FrS.of1 hf2 rfl)).alloc (by rw [hz2.out]; omega) (.cells #[.int .i64 (getV 2 u), .slice none 0 0, .slice none 0 0] 84)
  have hr3 := (FrS.of1 (R := w.heap.size + 1) (S := fun k => k = b) hf2 rfl).blk HR1.out (by omega) (by omega)
  have hadv : (rdGl u).1.adv = getV 2 u := rfl
  have HAdv := Lib.hid hadv
  generalize getV 2 u = adv at *
  generalize hw3 : w2.alloc (.cells #[.int .i64 adv, .slice none 0 0, .slice none 0 0] 84) = w3 at *
  have hz3 : Hid (w3.heap.size = w.heap.size + 2) := by unfold Hid; rw [← hw3]; simp [hz2.out]
  have hr3' := hr3.alloc (.cells #[.int .i64 adv, .slice none 0 0, .slice none 0 0] 84)
  rw [hw3] at hr3'
  have HB3 := Lib.hid hb3
  have HGb := Lib.hid hg3
  have HR3 := Lib.hid hr3'
  have HW3 := Lib.hid hw3
  clear hm2 hf2 hb3 hg3 hr3 hr3' hadv hw3
  rw [show ((1 : Nat) : Int) = 1 from rfl] at HG2
  go_wp2_with fail
  rw [HW3.out]
  refine HG2.out.mono ?_
  rintro e w4 ⟨rfl, hm4, hf4⟩
  have HG3 := Lib.hid (get_any 1 _ b w4 hm4 (Nat.le_trans (getU_len _ _) (Nat.le_trans (getU_len _ _) hl)) (by omega))
  rw [show ((1 : Nat) : Int) = 1 from rfl] at HG3
  have HF4 := Lib.hid hf4
  clear hm4 hf4
  go_wp2_with fail
  refine HG3.out.mono ?_
  rintro e w5 ⟨rfl, hm5, hf5⟩
  have HM5 := Lib.hid hm5
  have hf35 := HF4.out.trans hf5
  have hz5 : Hid (w5.heap.size = w.heap.size + 2) := hf35.size.trans hz3.out
  have hgb : w2.heap.size = w.heap.size + 1 := hz2.out
  have HG5 : Hid (Blk w5 (w.heap.size + 1) 84 #[.int .i64 adv, .slice none 0 0, .slice none 0 0]) := by rw [← hgb]; exact (FrS.of1 (R := w.heap.size + 2) (S := fun k => k = b) hf35 rfl).blk HGb.out (by omega) (by omega)
  have HR5 : Hid (Blk w5 w.heap.size _ _) := (FrS.of1 (R := w.heap.size + 2) (S := fun k => k = b) hf35 rfl).blk HR3.out (by omega) (by omega)
  have HB5 : Hid (FrS w.heap.size (fun k => k = b) w w5) := HB3.out.trans (FrS.of1 hf35 rfl)
  have hn1 := getV1 (getU 2 u)
  have hn2 := getV1 (getU 1 (getU 2 u))
  have hl5 : (gl0 u).s.length ≤ u.s.length := Nat.le_trans (getU_len _ _) (Nat.le_trans (getU_len _ _) (getU_len _ _))
  have HRd : Hid (rdGl u = (⟨adv, (rdCons (getV 1 (getU 2 u)).toNat (gl0 u)).1, (rdPas (getV 1 (getU 1 (getU 2 u))).toNat (rdCons (getV 1 (getU 2 u)).toNat (gl0 u)).2).1⟩, (rdPas (getV 1 (getU 1 (getU 2 u))).toNat (rdCons (getV 1 (getU 2 u)).toNat (gl0 u)).2).2)) := by
    have := HAdv.out; unfold Hid; rw [← this]; rfl
  have e5 : getU 1 (getU 1 (getU 2 u)) = gl0 u := rfl
  rw [e5] at HM5
  obtain ⟨nc, hnc⟩ : ∃ nc : Nat, getV 1 (getU 2 u) = (nc : Int) := ⟨_, (Int.toNat_of_nonneg hn1.1).symm⟩
  obtain ⟨np, hnp⟩ : ∃ np : Nat, getV 1 (getU 1 (getU 2 u)) = (np : Int) := ⟨_, (Int.toNat_of_nonneg hn2.1).symm⟩
  rw [hnc, hnp, Int.toNat_natCast, Int.toNat_natCast] at HRd
  rw [hnc, hnp]
  rw [hnc] at hn1
  rw [hnp] at hn2
  generalize gl0 u = u0 at *
  have hnc255 : nc ≤ 255 := by omega
  have hnp255 : np ≤ 255 := by omega
  clear hm5 hf5 hf35 hnc hnp e5 hn1 hn2 HF4 HGb HR3 HB3 HB1 HR1 hw1
  go_wp2
  clear hgb
  have hz5' := hz5.out
  go_loopw [4] (fun vi wr => ∃ (m : Nat) (acc : List (List Pt)) (cv : Value) (uu : Up), vi = .int .i64 m ∧ acc.length + m ≤ 255 ∧ rdCons nc u0 = (acc ++ (rdCons m uu).1, (rdCons m uu).2) ∧ uu.s.length ≤ u.s.length ∧ UpM wr b uu ∧
    Blk wr (w.heap.size + 1) 84 #[.int .i64 adv, cv, .slice none 0 0] ∧ ConR wr w5.heap.size cv acc ∧ w5.heap.size ≤ wr.heap.size ∧ FrS w5.heap.size (fun k => k = b ∨ k = w.heap.size + 1) w5 wr) (fun i _ => (intOf i).toNat)
  case atStart => exact ⟨nc, [], .slice none 0 0, u0, rfl, by simpa using hnc255, by simp, hl5, HM5.out, HG5.out, ConR.nil _ _, Nat.le_refl _, FrS.refl _ _ _⟩
  case round =>
    obtain ⟨m, acc, cv, uu, rfl, ham, hrd, hul, hum, hgk, hcr, hsz, hfr⟩ := hrel
    have HRc := Lib.hid hrd
    have HUm := Lib.hid hum
    have HGk := Lib.hid hgk
    have HCr := Lib.hid hcr
    have HFr := Lib.hid hfr
    have c1 := hum.cell 1
    simp only [List.getElem?_toArray, List.getElem?_cons_zero, List.getElem?_cons_succ] at c1
    have hbr : b < wr.heap.size := by omega
    by_cases hend : m = 0 ∨ uu.bad = true
    · have hrd0 : rdCons m uu = ([], uu) := by
        rcases hend with rfl | hb
        · rfl
        · cases m with
          | zero => rfl
          | succ m => unfold rdCons; rw [if_pos hb]
      have HEn : Hid (rdCons nc u0 = (acc, uu)) := by unfold Hid; rw [HRc.out, hrd0, List.append_nil]
      obtain ⟨vals, hco, _⟩ := hcr
      obtain ⟨Ac, cc, rfl⟩ := own_form hco
      have hcc := HCr.out.cons
      have HCc : Hid (Cons wr (fun k => w5.heap.size ≤ k ∧ k < wr.heap.size) (.slice Ac acc.length cc) acc) := by
        obtain ⟨vs, x1, x2⟩ := hcc
        exact ⟨vs, x1.mono fun k hk h => ⟨h, hk⟩, fun i hi => (x2 i hi).mono fun k hk h => ⟨h, hk⟩⟩
      have HRw : Hid (Blk wr w.heap.size 84 _) := hfr.blk HR5.out (by omega) (by omega)
      have HBw : Hid (FrS w.heap.size (fun k => k = b) w wr) := HB5.out.trans (hfr.weak (by omega) fun k hk h => by rcases h with h | h; exact h; omega)
      have hcase : m = 0 ∨ (0 < m ∧ uu.bad = true) := by
        rcases hend with h | h
        · exact .inl h
        · rcases Nat.eq_zero_or_pos m with h2 | h2
          · exact .inl h2
          · exact .inr ⟨h2, h⟩
      obtain ⟨wx, rfl⟩ : ∃ x, x = wr := ⟨_, rfl⟩
      clear hrd hum hgk hfr hend hrd0 hco hcc
      have HDis : Hid (wx.heap.size = wx.heap.size) := rfl
      have hxz : w.heap.size + 2 ≤ wx.heap.size := by omega
      rcases hcase with hk0 | ⟨hkp, hb⟩
      all_goals try subst hk0
      all_goals try (rw [hb] at c1; clear hb)
      all_goals
        go_wp2
        go_loopw [5] (fun vi wq => ∃ (k : Nat) (ps : List Part) (pv : Value) (up : Up), vi = .int .i64 k ∧ ps.length + k ≤ 255 ∧ rdPas np uu = (ps ++ (rdPas k up).1, (rdPas k up).2) ∧ up.s.length ≤ u.s.length ∧ UpM wq b up ∧
          Blk wq (w.heap.size + 1) 84 #[.int .i64 adv, .slice Ac acc.length cc, pv] ∧ wq.ownsRow wx.heap.size 103 3 pv ps.length (ps.flatMap pac) ∧ wx.heap.size ≤ wq.heap.size ∧ FrS wx.heap.size (fun k => k = b ∨ k = w.heap.size + 1) wx wq) (fun i _ => (intOf i).toNat)
        case atStart => exact ⟨np, [], .slice none 0 0, uu, rfl, by simpa using hnp255, by simp, hul, HUm.out, HGk.out, World.ownsRow_nil _ _ _ _, Nat.le_refl _, FrS.refl _ _ _⟩
        case round =>
          obtain ⟨k, ps, pv, up, rfl, hpk, hrp, hup, hpm, hgq, hpo, hps, hpf⟩ := hrel
          have HRp := Lib.hid hrp
          have HPm := Lib.hid hpm
          have HPo := Lib.hid hpo
          have HPf := Lib.hid hpf
          have HGq := Lib.hid hgq
          have c1 := hpm.cell 1
          simp only [List.getElem?_toArray, List.getElem?_cons_zero, List.getElem?_cons_succ] at c1
          have hbq : b < wr.heap.size := by omega
          obtain ⟨Ap, cp, rfl⟩ := own_form hpo
          by_cases hend2 : k = 0 ∨ up.bad = true
          · have hrp0 : rdPas k up = ([], up) := by
              rcases hend2 with rfl | hb
              · rfl
              · cases k with
                | zero => rfl
                | succ k => unfold rdPas; rw [if_pos hb]
            have HEn2 : Hid (rdPas np uu = (ps, up)) := by unfold Hid; rw [HRp.out, hrp0, List.append_nil]
            have hres := HPf.out.blk HRw.out (by omega) (by omega)
            have r0 := hres.cell 0
            have r1 := hres.cell 1
            have r2 := hres.cell 2
            have r0f := hres.frozen 0
            have r1f := hres.frozen 1
            have r2f := hres.frozen 2
            have g0 := hgq.cell 0
            have g1 := hgq.cell 1
            have g2 := hgq.cell 2
            simp at r0 r1 r2 g0 g1 g2
            have hcase : k = 0 ∨ (0 < k ∧ up.bad = true) := by
              rcases hend2 with h | h
              · exact .inl h
              · rcases Nat.eq_zero_or_pos k with h2 | h2
                · exact .inl h2
                · exact .inr ⟨h2, h⟩
            have hlr : w.heap.size < wr.heap.size := hres.lt
            have hgne : w.heap.size + 1 ≠ w.heap.size := by omega
            clear hend2 hrp0 hrp hpm hpo hpf hgq hres
            rcases hcase with hk0 | ⟨hkp, hb⟩
            all_goals try subst hk0
            all_goals try (rw [hb] at c1; clear hb)
            all_goals
              go_wp2
              refine bodyPost_ret (v := .agg #[.int .i64 adv, .slice Ac acc.length cc, .slice Ap ps.length cp]) (by simp [results, Tryd.results40, go_sem, r0, r1, r2, World.cell?_setCell_other, World.cell?_setCell_same]) rfl ?_
              have hG : rdGl u = (⟨adv, acc, ps⟩, up) := by rw [HRd.out, HEn.out]; dsimp only; rw [HEn2.out]
              have hfin := (((FrS.refl wr.heap.size (fun k => k = w.heap.size) wr).put (p := ⟨w.heap.size, 0, none⟩) (.inr rfl) (.int .i64 adv)).put (p := ⟨w.heap.size, 1, none⟩) (.inr rfl) (.slice Ac acc.length cc)).put (p := ⟨w.heap.size, 2, none⟩) (.inr rfl) (.slice Ap ps.length cp)
              unfold GlPost
              rw [hG]
              refine ⟨_, _, rfl, ?_, ?_, ?_, hup, ?_⟩
              · obtain ⟨vs, x1, x2⟩ := HCc.out
                have hk : ∀ k, (w5.heap.size ≤ k ∧ k < wx.heap.size) → k < wx.heap.size → (((wr.setCell ⟨w.heap.size, 0, none⟩ (.int .i64 adv)).setCell ⟨w.heap.size, 1, none⟩ (.slice Ac acc.length cc)).setCell ⟨w.heap.size, 2, none⟩ (.slice Ap ps.length cp)).heap[k]? = wx.heap[k]? := fun k h h2 =>
                  (hfin.block k (by omega) (by omega)).trans (HPf.out.block k h2 (by omega))
                have hs := Nat.le_trans hps hfin.size
                exact ⟨vs, (x1.keep hs hk).mono fun k _ h => by omega, fun i hi => ((x2 i hi).keep hs hk).mono fun k _ h => by omega⟩
              · exact (SlM.keep ((SlM.of_own HPo.out).mono (ok' := fun k => wx.heap.size ≤ k) fun k _ h => h.2) hfin.size fun k h h2 => hfin.block k h2 (by omega)).mono fun k _ h => by omega
              · exact UpM.fr HPm.out hfin hbq (by omega)
              · exact ((((HBw.out.trans (HPf.out.weak (by omega) fun k hk h => by rcases h with h | h; exact h; omega)).put (p := ⟨w.heap.size, 0, none⟩) (.inl (Nat.le_refl _)) _).put (p := ⟨w.heap.size, 1, none⟩) (.inl (Nat.le_refl _)) _).put (p := ⟨w.heap.size, 2, none⟩) (.inl (Nat.le_refl _)) _)
          · obtain ⟨j, rfl⟩ : ∃ j, k = j + 1 := ⟨k - 1, by omega⟩
            have hbad : up.bad = false := by cases h : up.bad with
              | false => rfl
              | true => exact absurd (.inr h) hend2
            have HSt2 : Hid (rdPas (j + 1) up = (rdPa up :: (rdPas j (rdPtU up)).1, (rdPas j (rdPtU up)).2)) := by unfold Hid; rw [rdPas, if_neg (by rw [hbad]; decide)]
            rw [hbad] at c1
            have HG7 := Lib.hid (get_any 1 up b _ hpm (Nat.le_trans hup hl) (by omega))
            rw [show ((1 : Nat) : Int) = 1 from rfl] at HG7
            have HPt : Hid (rdPa up = ⟨getV 1 up, sV (getU 1 up), sV (getU 2 (getU 1 up))⟩) := rfl
            have HPu : Hid (rdPtU up = getU 2 (getU 2 (getU 1 up))) := rfl
            have hl7 := Nat.le_trans (getU_len 1 up) hup
            have hl8 := Nat.le_trans (getU_len 2 (getU 1 up)) hl7
            have hl9 := Nat.le_trans (getU_len 2 (getU 2 (getU 1 up))) hl8
            have HS1 := Lib.hid fun W (h : UpM W b (getU 1 up)) => signed_any (getU 1 up) b W h (Nat.le_trans hl7 hl)
            have HS2 := Lib.hid fun W (h : UpM W b (getU 2 (getU 1 up))) => signed_any (getU 2 (getU 1 up)) b W h (Nat.le_trans hl8 hl)
            generalize getV 1 up = pg at *
            generalize sV (getU 1 up) = x at *
            generalize sV (getU 2 (getU 1 up)) = y at *
            generalize getU 2 (getU 2 (getU 1 up)) = uc at *
            generalize getU 2 (getU 1 up) = ub at *
            generalize getU 1 up = ua at *
            clear hend2 hbad hrp hpm hpo hpf hgq
            go_wp2_with fail
            refine HG7.out.mono ?_
            rintro e w7 ⟨rfl, hm7, hf7⟩
            have hz7 : Hid (w7.heap.size = wr.heap.size) := hf7.size
            have HF7 := Lib.hid hf7
            have HS8 := Lib.hid (HS1.out (w7.alloc (.cells #[.int .i64 pg, .int .i64 0, .int .i64 0] 103)) (Blk.alloc hm7 _))
            have HP8 := Lib.hid (Blk.new w7 103 #[.int .i64 pg, .int .i64 0, .int .i64 0])
            clear hm7 hf7 c1
            go_wp2_with fail
            refine HS8.out.mono ?_
            rintro e w9 ⟨rfl, hm9, hf9⟩
            have hb7 : b < w7.heap.size := by rw [hz7.out]; exact hbq
            have hz9 : Hid (w9.heap.size = w7.heap.size + 1) := by unfold Hid; rw [hf9.size]; simp
            have hp9 := (FrS.of1 (R := w7.heap.size + 1) (S := fun k => k = b) hf9 rfl).blk HP8.out (by omega) (by omega)
            have hm9' := Blk.far (show Blk w9 b _ _ from hm9) (p := ⟨w7.heap.size, 1, none⟩) (by show b ≠ w7.heap.size; omega) (.int .i64 x)
            have HS10 := Lib.hid (HS2.out (w9.setCell ⟨w7.heap.size, 1, none⟩ (.int .i64 x)) hm9')
            have HF9 := Lib.hid hf9
            have HP9 := Lib.hid hp9
            have p1 := hp9.cell 1
            have f1 := hp9.frozen 1
            simp only [List.getElem?_toArray, List.getElem?_cons_zero, List.getElem?_cons_succ] at p1
            clear hm9 hf9 hp9 hm9'
            go_wp2_with fail
            refine HS10.out.mono ?_
            rintro e w11 ⟨rfl, hm11, hf11⟩
            have hp11 := (FrS.of1 (R := w7.heap.size + 1) (S := fun k => k = b) hf11 rfl).blk (HP9.out.put 1 (.int .i64 x)) (by omega) (by omega)
            have p2 := hp11.cell 2
            have f2 := hp11.frozen 2
            simp at p2
            have hfr : FrS wx.heap.size (fun k => k = b ∨ k = w.heap.size + 1) wx (w11.setCell ⟨w7.heap.size, 2, none⟩ (.int .i64 y)) := by
              have hz := hz7.out
              have k1 := HPf.out.trans (FrS.of1 HF7.out (.inl rfl))
              have k2 := (k1.alloc (by omega) (.cells #[.int .i64 pg, .int .i64 0, .int .i64 0] 103)).trans (FrS.of1 HF9.out (.inl rfl))
              have k3 := (k2.put (p := ⟨w7.heap.size, 1, none⟩) (.inl (by show wx.heap.size ≤ w7.heap.size; omega)) (.int .i64 x)).trans (FrS.of1 hf11 (.inl rfl))
              exact k3.put (p := ⟨w7.heap.size, 2, none⟩) (.inl (by show wx.heap.size ≤ w7.heap.size; omega)) _
            have hfb : FrS wr.heap.size (fun k => k = b) wr (w11.setCell ⟨w7.heap.size, 2, none⟩ (.int .i64 y)) := by
              have hz := hz7.out
              have k1 := (FrS.of1 (R := wr.heap.size) (S := fun k => k = b) HF7.out rfl)
              have k2 := (k1.alloc (by omega) (.cells #[.int .i64 pg, .int .i64 0, .int .i64 0] 103)).trans (FrS.of1 HF9.out rfl)
              have k3 := (k2.put (p := ⟨w7.heap.size, 1, none⟩) (.inl (by show wr.heap.size ≤ w7.heap.size; omega)) (.int .i64 x)).trans (FrS.of1 hf11 rfl)
              exact k3.put (p := ⟨w7.heap.size, 2, none⟩) (.inl (by show wr.heap.size ≤ w7.heap.size; omega)) _
            have hp12 := hp11.put 2 (.int .i64 y)
            have hm12 := Blk.far (show Blk w11 b _ _ from hm11) (p := ⟨w7.heap.size, 2, none⟩) (by show b ≠ w7.heap.size; omega) (.int .i64 y)
            simp at hp12
            generalize hw12 : w11.setCell ⟨w7.heap.size, 2, none⟩ (.int .i64 y) = w12 at *
            have hg12 := hfb.blk HGq.out HGq.out.lt (by omega)
            have ho12 := hfb.own HPo.out fun k hk => ⟨(own_lt HPo.out k hk).2, fun e => by have := (own_lt HPo.out k hk).1; omega⟩
            have g2 := hg12.cell 2
            have g2f := hg12.frozen 2
            have z0 := hp12.cell 0
            have z1 := hp12.cell 1
            have z2 := hp12.cell 2
            simp at g2 z0 z1 z2
            have HO12 := Lib.hid ho12
            have HG12 := Lib.hid hg12
            have HM12 : Hid (UpM w12 b uc) := hm12
            have HF12 := Lib.hid hfr
            have HFb12 := Lib.hid hfb
            have hlp : w7.heap.size < w12.heap.size := hp12.lt
            have hlg : w.heap.size + 1 < w12.heap.size := hg12.lt
            have hsx : wx.heap.size ≤ w12.heap.size := hfr.size
            have HOl : Hid (∀ k, (Value.slice Ap ps.length cp).ownBlock = some k → wx.heap.size ≤ k) := fun k hk => (own_lt ho12 k hk).1
            clear ho12 hg12 hm12 hfr hfb hp12 hp11 hm11 hf11
            go_wp2_with (at_builtin; go_must (refine wpList_pushk ePa rfl (.tmp 82) (.tmp 84) rfl wx.heap.size (.slice Ap ps.length cp) ps.length _ rfl (HO12.out.alloc _) ⟨w12.heap.size, 0, none⟩ 1 [.int .i64 pg, .int .i64 x, .int .i64 y] rfl rfl (news_new _ _ _ _ rfl) (by simp [Value.oneCell']) (by omega) (by omega) (by omega) (by simp; omega) ?_); go_must (intro v' w13 hown13 hgr13 _; have HO13 := Lib.hid hown13; have HGr := Lib.hid hgr13; have hgk := ((HG12.out.alloc (.cells #[.int .i64 pg, .int .i64 x, .int .i64 y] 103)).grown hgr13 (fun e => by have := HOl.out _ e.symm; omega)); have h2 := hgk.cell 2; have h2f := hgk.frozen 2; simp at h2; obtain ⟨A13, c13, rfl⟩ := own_form hown13; have HGk2 := Lib.hid (hgk.put 2 (.slice A13 (ps.length + 1) c13)); clear hown13 hgr13 hgk))
            go_roundw
            case rel =>
              refine ⟨j, ps ++ [rdPa up], .slice A13 (ps.length + 1) c13, uc, by go_num, by simp; omega, ?_, hl9, ?_, ?_, ?_, ?_, ?_⟩
              · rw [HRp.out, HSt2.out, HPu.out]; simp
              · exact ((Blk.alloc (show Blk w12 b _ _ from HM12.out) _).grown HGr.out (fun e => by have := HOl.out _ e.symm; omega)).far (p := ⟨w.heap.size + 1, 2, none⟩) (by show b ≠ w.heap.size + 1; omega) _
              · have := HGk2.out; simpa using this
              · have h13 := own_setCell HO13.out (p := ⟨w.heap.size + 1, 2, none⟩) (.inl (by show w.heap.size + 1 < wx.heap.size; omega)) (.slice A13 (ps.length + 1) c13)
                rw [List.length_append, List.flatMap_append, HPt.out]
                simpa [pac] using h13
              · have := HGr.out.size; simp only [World.setCell]; simp at this ⊢; omega
              · exact ((((HF12.out.alloc hsx _).grown HGr.out (Nat.le_trans hsx (by simp)) fun k hk => .inl (HOl.out k hk)).put (.inr (.inr rfl)) _))
            case measure => simp [intOf]
    · obtain ⟨q, rfl⟩ : ∃ q, m = q + 1 := ⟨m - 1, by omega⟩
      have hbad : uu.bad = false := by cases h : uu.bad with
        | false => rfl
        | true => exact absurd (.inr h) hend
      have HSt : Hid (rdCons (q + 1) uu = ((rdCon uu).1 :: (rdCons q (rdCon uu).2).1, (rdCons q (rdCon uu).2).2)) := by unfold Hid; rw [rdCons, if_neg (by rw [hbad]; decide)]
      rw [hbad] at c1
      have HGt := Lib.hid (get_any 1 uu b wr hum (Nat.le_trans hul hl) (by omega))
      rw [show ((1 : Nat) : Int) = 1 from rfl] at HGt
      have hn1 := getV1 uu
      have HCon : Hid (rdCon uu = rdPts (getV 1 uu).toNat (getU 1 uu)) := rfl
      obtain ⟨n, hn⟩ : ∃ n : Nat, getV 1 uu = (n : Int) := ⟨_, (Int.toNat_of_nonneg hn1.1).symm⟩
      rw [hn, Int.toNat_natCast] at HCon
      rw [hn] at HGt hn1
      have hn255 : n ≤ 255 := by omega
      have hul1 := Nat.le_trans (getU_len 1 uu) hul
      clear hn hn1 hrd hum hgk hcr hfr hend hbad
      go_wp2_with fail
      refine HGt.out.mono ?_
      rintro e w6 ⟨rfl, hm6, hf6⟩
      have HM6 := Lib.hid hm6
      have HF6 := Lib.hid hf6
      have hz6 : w6.heap.size = wr.heap.size := hf6.size
      have HZ6 := Lib.hid hz6
      clear hm6 hf6 hz6 c1
      generalize getU 1 uu = u1' at *
      go_wp2
      go_loopw [6, 7] (fun v6 v7 wq => ∃ (k : Nat) (pts : List Pt) (up : Up), v7 = .int .i64 k ∧ pts.length + k ≤ 255 ∧ rdPts n u1' = (pts ++ (rdPts k up).1, (rdPts k up).2) ∧ up.s.length ≤ u.s.length ∧ UpM wq b up ∧
        wq.ownsRow w6.heap.size 64 3 v6 pts.length (pts.flatMap ptc) ∧ w6.heap.size ≤ wq.heap.size ∧ FrS w6.heap.size (fun k => k = b) w6 wq) (fun _ i _ => (intOf i).toNat)
      case atStart => exact ⟨n, [], u1', rfl, by simpa using hn255, by simp, hul1, HM6.out, World.ownsRow_nil _ _ _ _, Nat.le_refl _, FrS.refl _ _ _⟩
      case round =>
        obtain ⟨k, pts, up, rfl, hpk, hrp, hup, hpm, hpo, hps, hpf⟩ := hrel
        obtain ⟨v6, rfl⟩ : ∃ v, v = u6 := ⟨_, rfl⟩
        have HRp := Lib.hid hrp
        have HPm := Lib.hid hpm
        have HPo := Lib.hid hpo
        have HPf := Lib.hid hpf
        have c1 := hpm.cell 1
        simp only [List.getElem?_toArray, List.getElem?_cons_zero, List.getElem?_cons_succ] at c1
        by_cases hend2 : k = 0 ∨ up.bad = true
        · have hrp0 : rdPts k up = ([], up) := by
            rcases hend2 with rfl | hb
            · rfl
            · cases k with
              | zero => rfl
              | succ k => unfold rdPts; rw [if_pos hb]
          have HEn : Hid (rdCon uu = (pts, up)) := by unfold Hid; rw [HCon.out, HRp.out, hrp0, List.append_nil]
          obtain ⟨A6, c6, rfl⟩ := own_form hpo
          have hzr := HZ6.out
          have hpts : Pts wr (fun k => w6.heap.size ≤ k) (.slice A6 pts.length c6) pts := (SlM.of_own hpo).mono fun k _ h => h.2
          have hf6w := (FrS.of1 (R := w6.heap.size) (S := fun k => k = b) HF6.out rfl).trans hpf
          rw [hzr] at hf6w
          have HGw := Lib.hid (hf6w.blk HGk.out HGk.out.lt (by omega))
          obtain ⟨vals, hco, hcp⟩ := HCr.out
          have hcl := own_lt hco
          have hco' := hf6w.own hco fun k hk => ⟨(hcl k hk).2, fun e => by have := (hcl k hk).1; omega⟩
          obtain ⟨Ac, cc, rfl⟩ := own_form hco
          have g1 := HGw.out.cell 1
          simp only [List.getElem?_toArray, List.getElem?_cons_zero, List.getElem?_cons_succ] at g1
          have HCo := Lib.hid hco'
          have HCw := Lib.hid hco
          have HCp := Lib.hid hcp
          have HPts := Lib.hid hpts
          have HF6w := Lib.hid hf6w
          have hsz2 := HF6w.out.size
          have hsz3 : w5.heap.size ≤ wr.heap.size := Nat.le_trans hsz hsz2
          have hg1l : w.heap.size + 1 < w5.heap.size := by omega
          have hcase : k = 0 ∨ (0 < k ∧ up.bad = true) := by
            rcases hend2 with h | h
            · exact .inl h
            · rcases Nat.eq_zero_or_pos k with h2 | h2
              · exact .inl h2
              · exact .inr ⟨h2, h⟩
          have HPmr : Hid (UpM wr b up) := hpm
          have HOl : Hid (∀ k, (Value.slice Ac acc.length cc).ownBlock = some k → w5.heap.size ≤ k) := fun k hk => (hcl k hk).1
          clear hzr hpts hf6w hco hcp hcl hco' hrp hpo hpf hend2 hpm hrp0
          rcases hcase with hk0 | ⟨hkp, hb⟩
          · subst hk0
            go_wp2_with (at_builtin; go_must (refine wpList_push eCo rfl (.tmp 56) (.tmp 58) rfl w5.heap.size (.slice Ac acc.length cc) acc.length vals rfl (HCo.out.alloc _) ⟨wr.heap.size, 0, none⟩ 1 (.slice A6 pts.length c6) rfl (new_one _ _ _) rfl (by omega) (by omega) (by simp; omega) ?_); go_must (intro v' w10 hown10 hgr10 hk10; have HO10 := Lib.hid hown10; have HK10 := Lib.hid hk10; have HGr := Lib.hid hgr10; have hgk := ((HGw.out.alloc (.cells #[.slice A6 pts.length c6] 61)).grown hgr10 (fun e => by have := HOl.out _ e.symm; omega)); have g1 := hgk.cell 1; have g1f := hgk.frozen 1; simp only [List.getElem?_toArray, List.getElem?_cons_zero, List.getElem?_cons_succ] at g1; obtain ⟨A10, c10, rfl⟩ := own_form hown10; have HGk2 := Lib.hid (hgk.put 1 (.slice A10 (acc.length + 1) c10)); clear hown10 hgr10 hk10 hgk))
            go_roundw
            case rel =>
              refine ⟨q, acc ++ [pts], .slice A10 (acc.length + 1) c10, up, by go_num, by simp; omega, ?_, hup, ?_, ?_, ?_, ?_, ?_⟩
              · rw [HRc.out, HSt.out, HEn.out]; simp
              · exact ((Blk.alloc HPmr.out _).grown HGr.out (fun e => by have := HOl.out _ e.symm; omega)).far (p := ⟨w.heap.size + 1, 1, none⟩) (by show b ≠ w.heap.size + 1; omega) _
              · have := HGk2.out; simpa using this
              · have hpu := ConR.push HCp.out HCw.out hsz HF6w.out (S := fun k => k = b) (fun k hk => by omega) (SlM.mono (ok' := fun k => _ ≤ k) HPts.out fun k _ h => by have := HZ6.out; omega) HO10.out HGr.out HK10.out
                exact hpu.fr (R := w10.heap.size) (S := fun k => k = w.heap.size + 1) ((FrS.refl w10.heap.size (fun k => k = w.heap.size + 1) w10).put (p := ⟨w.heap.size + 1, 1, none⟩) (.inr rfl) _) (Nat.le_refl _) (fun k hk => by omega)
              · have := HGr.out.size; simp only [World.setCell]; simp at this ⊢; omega
              · exact ((((HFr.out.trans (HF6w.out.weak hsz fun k _ h => .inl h)).alloc hsz3 _).grown HGr.out (Nat.le_trans hsz3 (by simp)) fun k hk => .inl (HOl.out k hk)).put (.inr (.inr rfl)) _)
            case measure => simp [intOf]
          · rw [hb] at c1
            clear hb
            go_wp2_with (at_builtin; go_must (refine wpList_push eCo rfl (.tmp 56) (.tmp 58) rfl w5.heap.size (.slice Ac acc.length cc) acc.length vals rfl (HCo.out.alloc _) ⟨wr.heap.size, 0, none⟩ 1 (.slice A6 pts.length c6) rfl (new_one _ _ _) rfl (by omega) (by omega) (by simp; omega) ?_); go_must (intro v' w10 hown10 hgr10 hk10; have HO10 := Lib.hid hown10; have HK10 := Lib.hid hk10; have HGr := Lib.hid hgr10; have hgk := ((HGw.out.alloc (.cells #[.slice A6 pts.length c6] 61)).grown hgr10 (fun e => by have := HOl.out _ e.symm; omega)); have g1 := hgk.cell 1; have g1f := hgk.frozen 1; simp only [List.getElem?_toArray, List.getElem?_cons_zero, List.getElem?_cons_succ] at g1; obtain ⟨A10, c10, rfl⟩ := own_form hown10; have HGk2 := Lib.hid (hgk.put 1 (.slice A10 (acc.length + 1) c10)); clear hown10 hgr10 hk10 hgk))
            go_roundw
            case rel =>
              refine ⟨q, acc ++ [pts], .slice A10 (acc.length + 1) c10, up, by go_num, by simp; omega, ?_, hup, ?_, ?_, ?_, ?_, ?_⟩
              · rw [HRc.out, HSt.out, HEn.out]; simp
              · exact ((Blk.alloc HPmr.out _).grown HGr.out (fun e => by have := HOl.out _ e.symm; omega)).far (p := ⟨w.heap.size + 1, 1, none⟩) (by show b ≠ w.heap.size + 1; omega) _
              · have := HGk2.out; simpa using this
              · have hpu := ConR.push HCp.out HCw.out hsz HF6w.out (S := fun k => k = b) (fun k hk => by omega) (SlM.mono (ok' := fun k => _ ≤ k) HPts.out fun k _ h => by have := HZ6.out; omega) HO10.out HGr.out HK10.out
                exact hpu.fr (R := w10.heap.size) (S := fun k => k = w.heap.size + 1) ((FrS.refl w10.heap.size (fun k => k = w.heap.size + 1) w10).put (p := ⟨w.heap.size + 1, 1, none⟩) (.inr rfl) _) (Nat.le_refl _) (fun k hk => by omega)
              · have := HGr.out.size; simp only [World.setCell]; simp at this ⊢; omega
              · exact ((((HFr.out.trans (HF6w.out.weak hsz fun k _ h => .inl h)).alloc hsz3 _).grown HGr.out (Nat.le_trans hsz3 (by simp)) fun k hk => .inl (HOl.out k hk)).put (.inr (.inr rfl)) _)
            case measure => simp [intOf]
        · obtain ⟨j, rfl⟩ : ∃ j, k = j + 1 := ⟨k - 1, by omega⟩
          have hbad : up.bad = false := by cases h : up.bad with
            | false => rfl
            | true => exact absurd (.inr h) hend2
          have HSt2 : Hid (rdPts (j + 1) up = (rdPt up :: (rdPts j (rdPtU up)).1, (rdPts j (rdPtU up)).2)) := by unfold Hid; rw [rdPts, if_neg (by rw [hbad]; decide)]
          rw [hbad] at c1
          have HG7 := Lib.hid (get_any 1 up b _ hpm (Nat.le_trans hup hl) (by omega))
          rw [show ((1 : Nat) : Int) = 1 from rfl] at HG7
          have HPt : Hid (rdPt up = ⟨sV (getU 1 up), sV (getU 2 (getU 1 up)), getV 1 up == 1⟩) := rfl
          have HPu : Hid (rdPtU up = getU 2 (getU 2 (getU 1 up))) := rfl
          have hl7 := Nat.le_trans (getU_len 1 up) hup
          have hl8 := Nat.le_trans (getU_len 2 (getU 1 up)) hl7
          have hl9 := Nat.le_trans (getU_len 2 (getU 2 (getU 1 up))) hl8
          obtain ⟨A6, c6, rfl⟩ := own_form hpo
          clear hend2 hbad hrp hpm hpo hpf
          go_wp2_with fail
          refine HG7.out.mono ?_
          rintro e w7 ⟨rfl, hm7, hf7⟩
          have HG8 := Lib.hid (signed_any _ b w7 hm7 (Nat.le_trans hl7 hl))
          have HF7 := Lib.hid hf7
          clear hm7 hf7 c1
          generalize getV 1 up = on at *
          generalize getU 1 up = ua at *
          generalize hx : sV ua = x at *
          have HX := Lib.hid hx
          clear hx
          go_wp2_with fail
          refine HG8.out.mono ?_
          rintro e w8 ⟨rfl, hm8, hf8⟩
          have HG9 := Lib.hid (signed_any _ b w8 hm8 (Nat.le_trans hl8 hl))
          have HF8 := Lib.hid hf8
          clear hm8 hf8
          generalize getU 2 ua = ub at *
          generalize hy : sV ub = y at *
          have HY := Lib.hid hy
          clear hy
          go_wp2_with fail
          refine HG9.out.mono ?_
          rintro e w9 ⟨rfl, hm9, hf9⟩
          have hf79 := (HF7.out.trans HF8.out).trans hf9
          have HM9 := Lib.hid hm9
          have HF9 := Lib.hid (HPf.out.trans (FrS.of1 hf79 rfl))
          have hz9 : Hid (w9.heap.size = wr.heap.size) := hf79.size
          have HO9 := Lib.hid ((FrS.of1 (R := wr.heap.size) (S := fun k => k = b) hf79 rfl).own HPo.out fun k hk => ⟨(own_lt HPo.out k hk).2, fun e => by have := (own_lt HPo.out k hk).1; have := HZ6.out; omega⟩)
          clear hm9 hf9 hf79
          generalize getU 2 ub = uc at *
          have hps' : w6.heap.size ≤ w9.heap.size := by have := hz9.out; omega
          have HBv : Hid (Value.ownBlock (.slice A6 pts.length c6) ≠ some b) := fun e => by have := (own_lt HO9.out b e).1; have := HZ6.out; omega
          go_wp2_with (at_builtin; go_must (refine wpList_pushk ePt rfl (.tmp 47) (.tmp 53) rfl w6.heap.size (.slice A6 pts.length c6) pts.length _ rfl (HO9.out.alloc _) ⟨w9.heap.size, 0, none⟩ 1 [.int .i64 x, .int .i64 y, .bool (on == 1)] rfl rfl (news_new _ _ _ _ rfl) (by simp [Value.oneCell']) (by omega) (by omega) (by omega) (by simp; omega) ?_); go_must (intro v' w10 hown10 hgr10 _; have HO10 := Lib.hid hown10; have HM10 : Hid (UpM w10 b uc) := (Blk.alloc HM9.out _).grown hgr10 (fun e => HBv.out e.symm); have HF10 := Lib.hid ((HF9.out.alloc hps' _).grown hgr10 (Nat.le_trans hps' (by simp)) fun k hk => .inl (own_lt HO9.out k hk).1); have hsz10 : w9.heap.size ≤ w10.heap.size := Nat.le_trans (by simp) hgr10.size; clear hown10 hgr10))
          go_roundw
          case rel =>
            refine ⟨j, pts ++ [rdPt up], uc, by go_num, by simp; omega, ?_, hl9, HM10.out, ?_, by omega, HF10.out⟩
            · rw [HRp.out, HSt2.out, HPu.out]; simp
            · have := HO10.out
              rw [List.length_append, List.flatMap_append, HPt.out]
              simpa [ptc] using this
          case measure => simp [intOf]
end Go.Proofs.YtefkglmdkjkbiaaDoor
