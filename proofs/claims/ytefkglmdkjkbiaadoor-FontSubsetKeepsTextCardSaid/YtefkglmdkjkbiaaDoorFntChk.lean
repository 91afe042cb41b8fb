/- The walk of Check. -/
import Derived.Test.YtefkglmdkjkbiaaDoorFntVis
import Derived.Test.YtefkglmdkjkbiaaDoorFntTab
import Derived.Test.YtefkglmdkjkbiaaDoorFntWr
namespace Go.Proofs.YtefkglmdkjkbiaaDoor
open Go.RowKit Fnt
theorem nst_zero (n : Nat) : (madeCells #[Value.int .i64 0, .int .i64 0, .int .i64 0] (n * 3)).toList = (List.replicate n (⟨0, 0, 0⟩ : Nst)).flatMap nsc := by
  apply List.ext_getElem?
  intro i
  obtain ⟨q, r, hr, rfl⟩ : ∃ q r, r < 3 ∧ i = q * 3 + r := ⟨i / 3, i % 3, by omega, by omega⟩
  by_cases hq : q < n
  · rw [flat_at nsc_length (⟨0, 0, 0⟩ : Nst) _ q r (by simpa using hq) hr]
    have e : (List.replicate n (⟨0, 0, 0⟩ : Nst)).getD q ⟨0, 0, 0⟩ = ⟨0, 0, 0⟩ := by
      rw [List.getD_eq_getElem?_getD, List.getElem?_replicate]; split <;> rfl
    rw [e]
    have hg : (madeCells #[Value.int .i64 0, .int .i64 0, .int .i64 0] (n * 3)).toList[q * 3 + r]? = some (#[Value.int .i64 0, .int .i64 0, .int .i64 0] : Array Value)[(q * 3 + r) % 3]! := by
      rw [Array.getElem?_toList]
      unfold madeCells
      rw [Array.getElem?_map, Array.getElem?_range, if_pos (by omega)]; rfl
    rw [hg, show (q * 3 + r) % 3 = r by omega]
    rcases (show r = 0 ∨ r = 1 ∨ r = 2 by omega) with rfl | rfl | rfl <;> rfl
  · rw [List.getElem?_eq_none (by simp [size_madeCells]; omega), List.getElem?_eq_none (by rw [flat_length nsc_length]; simp; omega)]
theorem nstM_made (w : World) (n : Nat) : NstM (w.alloc (.cells (madeCells #[Value.int .i64 0, .int .i64 0, .int .i64 0] (n * 3)) 99)) w.heap.size (List.replicate n ⟨0, 0, 0⟩) := by
  have := (Blk.new w 99 (madeCells #[Value.int .i64 0, .int .i64 0, .int .i64 0] (n * 3))).row
  rw [nst_zero] at this
  exact this
theorem run_mkNest (n : Nat) (h : n ≤ 128) (W : World) : (Instr.makeSlice 96 (.int .i64 n) (.int .i64 n)).run Tryd.prog W = .ok (.slice (some ⟨W.heap.size, 0, none⟩) n n) (W.alloc (.cells (madeCells #[Value.int .i64 0, .int .i64 0, .int .i64 0] (n * 3)) 99)) := by
  obtain ⟨i, h2, h3, h4, h5⟩ := info_parts (show (Tryd.prog.info? 99).map (fun i => (i.zero, i.size, i.bytes)) = some (some (.agg #[.int .i64 0, .int .i64 0, .int .i64 0]), 3, 24) by kernel_rfl)
  have hr := run_make (P := Tryd.prog) W 96 99 i _ Tryd.underlying96 h2 h3 .i64 .i64 n n (by omega) (Int.le_refl _) (by rw [h5]; omega) (by omega)
  simp only [Int.toNat_natCast, h4] at hr
  exact hr
theorem visits_succ {F : Font} {k : Nat} {L : List Nst} (h : visits F k = (0, L)) : visits F (k + 1) = vis F (F.gs.length + 1) k L := by
  simp only [visits, h]; rfl
theorem visits_fresh {F : Font} (k : Nat) : fresh (visits F k).2 < F.gs.length + 1 := by
  have := visits_keeps F k
  have h2 : fresh (visits F k).2 ≤ (visits F k).2.length := List.countP_le_length
  omega
set_option maxRecDepth 100000 in
set_option maxHeartbeats 8000000 in
theorem check_any (F : Font) (fv : Value) (ok : Nat → Prop) (w : World) (hf : FntV w ok fv F) (hT : Tab w) (h0 : 0 < w.heap.size) :
    Calls Tryd.prog 15 #[fv] w fun e w' => e = .returned (.int .i64 (checkE F)) ∧ Below w.heap.size w w' := by
  have HFv : Hid (∀ w', Below w.heap.size w w' → FntV w' (fun b => ok b ∧ b < w.heap.size) fv F) := fun w' hb => by
    have h1 : FntV w (fun b => ok b ∧ b < w.heap.size) fv F := by
      obtain ⟨vg, vm, vk, rfl, hgs, hmp, hkn⟩ := hf
      obtain ⟨vs, a, b⟩ := hgs
      refine ⟨vg, vm, vk, rfl, ⟨vs, a.mono fun b hl ho => ⟨ho, hl⟩, fun i hi => ⟨?_, (b i hi).2.mono fun b hl ho => ⟨ho, hl⟩⟩⟩, hmp.mono fun b hl ho => ⟨ho, hl⟩, hkn.mono fun b hl ho => ⟨ho, hl⟩⟩
      obtain ⟨us, c, d⟩ := (b i hi).1
      exact ⟨us, c.mono fun b hl ho => ⟨ho, hl⟩, fun j hj => (d j hj).mono fun b hl ho => ⟨ho, hl⟩⟩
    exact h1.below hb fun b h _ => h.2
  obtain ⟨vg, vm, vk, rfl, hgs, hmp, hkn⟩ := hf
  obtain ⟨Ag, cg, rfl, hg1, hg2⟩ : ∃ A c, vg = .slice A F.gs.length c ∧ F.gs.length ≤ c ∧ c ≤ maxLen := by
    obtain ⟨vs, ⟨A, c, e, a, b, _⟩, _⟩ := hgs
    exact ⟨A, c, e, a, b⟩
  obtain ⟨Am, cm, rfl⟩ := SlM.form hmp
  obtain ⟨Ak, ck, rfl⟩ := SlM.form hkn
  have HG := Lib.hid hgs
  have HTw : Hid (∀ ww, Below w.heap.size w ww → Tab ww) := fun ww hb i hi => (hb.cell (p := ⟨0, i, none⟩) h0).trans (hT i hi)
  have cmc := hmp.caps
  have ckc := hkn.caps
  unfold maxLen at cmc ckc hg2
  have HE : Hid (checkE F = if decide (F.unit < 16) || decide (1024 < F.unit) then 3 else if F.gs.length = 0 then 8
    else if decide (128 < F.gs.length) || (decide (64 < F.map.length) || decide (128 < F.kern.length)) then 2
    else if scan (fun i => glyphE (gl F i) F.gs.length) F.gs.length = 0 then (if tablesE F = 0 then nestsE F else tablesE F) else scan (fun i => glyphE (gl F i) F.gs.length) F.gs.length) := rfl
  have HBase : Hid (∀ o, Below w.heap.size w (w.alloc o)) := fun o => (Below.refl _ _).alloc (Nat.le_refl _) o
  have hk1 := Blk.new w 26 #[.int .i64 F.unit, .slice Ag F.gs.length cg, .slice Am F.map.length cm, .slice Ak F.kern.length ck]
  have hb1 := HBase.out (.cells #[.int .i64 F.unit, .slice Ag F.gs.length cg, .slice Am F.map.length cm, .slice Ak F.kern.length ck] 26)
  generalize hun : F.unit = un at *
  generalize hng : F.gs.length = N at *
  generalize hnm : F.map.length = nm at *
  generalize hnk : F.kern.length = nk at *
  have HUn := Lib.hid hun
  have HNg := Lib.hid hng
  have HNm := Lib.hid hnm
  have HNk := Lib.hid hnk
  clear hun hng hnm hnk hgs hmp hkn hT
  generalize hw1 : w.alloc (.cells #[.int .i64 un, .slice Ag N cg, .slice Am nm cm, .slice Ak nk ck] 26) = w1 at *
  have k0 := hk1.cell 0
  have k1 := hk1.cell 1
  have k2 := hk1.cell 2
  have k3 := hk1.cell 3
  simp at k0 k1 k2 k3
  have HK1 := Lib.hid hk1
  have HB1 := Lib.hid hb1
  clear hk1 hb1
  by_cases hU : un < 16 ∨ 1024 < un
  · have HE3 : Hid (checkE F = 3) := by unfold Hid; rw [HE.out, if_pos (by simpa using hU)]
    by_cases h1 : un < 16
    · go_enter Tryd.func15, Tryd.ntmps15
      go_wp2
      go_ret
      exact ⟨endInt HE3.out.symm, HB1.out⟩
    · have h2 : 1024 < un := by omega
      go_enter Tryd.func15, Tryd.ntmps15
      go_wp2
      go_ret
      exact ⟨endInt HE3.out.symm, HB1.out⟩
  have hU1 : ¬ un < 16 := fun e => hU (.inl e)
  have hU2 : ¬ 1024 < un := fun e => hU (.inr e)
  have HEa : Hid (checkE F = if N = 0 then 8
    else if decide (128 < N) || (decide (64 < nm) || decide (128 < nk)) then 2
    else if scan (fun i => glyphE (gl F i) N) N = 0 then (if tablesE F = 0 then nestsE F else tablesE F) else scan (fun i => glyphE (gl F i) N) N) := by
    unfold Hid; rw [HE.out, if_neg (by simpa using hU)]
  clear HE hU
  by_cases hN0 : N = 0
  · have HE3 : Hid (checkE F = 8) := by unfold Hid; rw [HEa.out, if_pos hN0]
    subst hN0
    clear HEa
    go_enter Tryd.func15, Tryd.ntmps15
    go_wp2
    go_ret
    exact ⟨endInt HE3.out.symm, HB1.out⟩
  have HEb : Hid (checkE F = if decide (128 < N) || (decide (64 < nm) || decide (128 < nk)) then 2
    else if scan (fun i => glyphE (gl F i) N) N = 0 then (if tablesE F = 0 then nestsE F else tablesE F) else scan (fun i => glyphE (gl F i) N) N) := by
    unfold Hid; rw [HEa.out, if_neg hN0]
  clear HEa
  have hNp : 0 < N := by omega
  have hNb : ((N : Int) == 0) = false := by simp; omega
  by_cases hL : 128 < N ∨ 64 < nm ∨ 128 < nk
  · have HE3 : Hid (checkE F = 2) := by unfold Hid; rw [HEb.out, if_pos (by simpa using hL)]
    clear HEb
    by_cases h1 : 128 < N
    · go_enter Tryd.func15, Tryd.ntmps15
      go_wp2
      go_ret
      exact ⟨endInt HE3.out.symm, HB1.out⟩
    · by_cases h2 : 64 < nm
      · go_enter Tryd.func15, Tryd.ntmps15
        go_wp2
        go_ret
        exact ⟨endInt HE3.out.symm, HB1.out⟩
      · have h3 : 128 < nk := by omega
        go_enter Tryd.func15, Tryd.ntmps15
        go_wp2
        go_ret
        exact ⟨endInt HE3.out.symm, HB1.out⟩
  have hL1 : ¬ 128 < N := fun e => hL (.inl e)
  have hL2 : ¬ 64 < nm := fun e => hL (.inr (.inl e))
  have hL3 : ¬ 128 < nk := fun e => hL (.inr (.inr e))
  have HEc : Hid (checkE F = if scan (fun i => glyphE (gl F i) N) N = 0 then (if tablesE F = 0 then nestsE F else tablesE F) else scan (fun i => glyphE (gl F i) N) N) := by
    unfold Hid; rw [HEb.out, if_neg (by simpa using hL)]
  clear HEb hL
  go_enter Tryd.func15, Tryd.ntmps15
  go_wp2
  clear hU1 hU2
  have HNg2 := HNg
  go_loopw [46] (fun vi wr => ∃ i : Nat, i ≤ N ∧ vi = .int .i64 i ∧ scan (fun i => glyphE (gl F i) N) i = 0 ∧ Below w1.heap.size w1 wr) (fun i _ => N - (intOf i).toNat)
  case atStart => exact ⟨0, by omega, rfl, rfl, Below.refl _ _⟩
  case round =>
    obtain ⟨i, hi, rfl, hsc, hbl⟩ := hrel
    have HS := Lib.hid hsc
    have HB := Lib.hid hbl
    have HBw : Hid (Below w.heap.size w wr) := HB1.out.trans (hbl.mono HB1.out.size)
    have q1 := (hbl.cell (p := ⟨w.heap.size, 1, none⟩) HK1.out.lt).trans k1
    by_cases hlt : i < N
    · obtain ⟨bg, og, capg, vs, ev, hokg, hbg, _, _, hgc⟩ := Gls.cells HG.out (by rw [HNg.out]; omega)
      injection ev with e1 e2 e3
      subst e1 e3
      clear e2
      obtain ⟨d0, d1, d2, hcs, hps⟩ := hgc i (by rw [HNg.out]; exact hlt)
      rw [gs_get] at d0 hcs hps
      have HA : Hid (∀ e : Int, glyphE (gl F i) N = e → e ≠ 0 → checkE F = e) := fun e h1 h2 => by
        have h3 : scan (fun i => glyphE (gl F i) N) N = e := by
          rw [← h1]; exact scan_at (f := fun i => glyphE (gl F i) N) hlt HS.out (by show glyphE (gl F i) N ≠ 0; rw [h1]; exact h2)
        rw [HEc.out, h3, if_neg h2]
      have HZ : Hid (glyphE (gl F i) N = 0 → scan (fun i => glyphE (gl F i) N) (i + 1) = 0) := fun h1 => by rw [scan_succ HS.out]; exact h1
      replace d0 := (HBw.out.cell (p := ⟨bg, og + i * 3, none⟩) hbg).trans d0
      replace d1 := (HBw.out.cell (p := ⟨bg, og + i * 3 + 1, none⟩) hbg).trans d1
      replace d2 := (HBw.out.cell (p := ⟨bg, og + i * 3 + 2, none⟩) hbg).trans d2
      generalize hvc : (vs i).1 = vc at *
      generalize hvp : (vs i).2 = vp at *
      obtain ⟨Ac, cc, rfl, _, _⟩ := hcs.form
      obtain ⟨Ap, cp, rfl, _, _⟩ := hps.form
      have hbx := fun o => HBw.out.alloc HBw.out.size o
      have hl1 : w.heap.size < wr.heap.size := Nat.lt_of_lt_of_le HK1.out.lt hbl.size
      have HGa := Lib.hid (glyph_any (gl F i) N _ _ ok (wr.alloc (.cells #[.int .i64 (gl F i).adv, .slice Ac (gl F i).cs.length cc, .slice Ap (gl F i).ps.length cp] 84)) (hcs.keep (hbx _).size fun b _ hb => (hbx _).block b hb) (SlM.keep hps (hbx _).size fun b _ hb => (hbx _).block b hb) (by omega))
      have HBx : Hid (Below w1.heap.size w1 (wr.alloc (.cells #[.int .i64 (gl F i).adv, .slice Ac (gl F i).cs.length cc, .slice Ap (gl F i).ps.length cp] 84))) := hbl.alloc hbl.size _
      replace q1 := (cell_lt wr (.cells #[.int .i64 (gl F i).adv, .slice Ac (gl F i).cs.length cc, .slice Ap (gl F i).ps.length cp] 84) ⟨w.heap.size, 1, none⟩ hl1).trans q1
      clear hvc hvp hcs hps hgc hbl hsc hbx
      generalize glyphE (gl F i) N = e0 at *
      generalize (gl F i).adv = ad at *
      generalize (gl F i).cs.length = nc at *
      generalize (gl F i).ps.length = np at *
      have hkx := Blk.new wr 84 #[.int .i64 ad, .slice Ac nc cc, .slice Ap np cp]
      have p0 := hkx.cell 0
      have p1 := hkx.cell 1
      have p2 := hkx.cell 2
      simp only [List.getElem?_toArray, List.getElem?_cons_zero, List.getElem?_cons_succ] at p0 p1 p2
      clear hkx
      generalize hwx : wr.alloc (.cells #[.int .i64 ad, .slice Ac nc cc, .slice Ap np cp] 84) = wx at *
      go_wp2_with fail
      refine HGa.out.mono ?_
      rintro e w2 ⟨rfl, hb2⟩
      have HB2 : Hid (Below w1.heap.size w1 w2) := HBx.out.trans (hb2.mono HBx.out.size)
      clear hb2
      by_cases he0 : e0 = 0
      · subst he0
        go_wp2
        go_roundw
        case rel => exact ⟨i + 1, by omega, by go_num, HZ.out (by first | rfl | trivial), HB2.out⟩
        case measure => simp [intOf]; omega
      · go_wp2
        go_ret
        exact ⟨endInt (HA.out e0 rfl he0).symm, HB1.out.trans (HB2.out.mono HB1.out.size)⟩
    · obtain rfl : i = N := by omega
      have HEd : Hid (checkE F = if tablesE F = 0 then nestsE F else tablesE F) := by unfold Hid; rw [HEc.out, if_pos HS.out]
      have q0 := (hbl.cell (p := ⟨w.heap.size, 0, none⟩) HK1.out.lt).trans k0
      have q2 := (hbl.cell (p := ⟨w.heap.size, 2, none⟩) HK1.out.lt).trans k2
      have q3 := (hbl.cell (p := ⟨w.heap.size, 3, none⟩) HK1.out.lt).trans k3
      have HTb := Lib.hid (tables_any F _ _ wr (HFv.out wr HBw.out) (by rw [HNg.out]; omega))
      clear hbl hsc
      go_wp2_with fail
      refine HTb.out.mono ?_
      rintro e w2 ⟨rfl, hb2⟩
      have HB2 : Hid (Below w1.heap.size w1 w2) := HB.out.trans (hb2.mono HB.out.size)
      have HB2w : Hid (Below w.heap.size w w2) := HB1.out.trans (HB2.out.mono HB1.out.size)
      clear hb2 q0 q1 q2 q3
      by_cases ht : tablesE F = 0
      · have HEe : Hid (checkE F = nestsE F) := by unfold Hid; rw [HEd.out, if_pos ht]
        have hb2 := HB2.out
        have q1 := (hb2.cell (p := ⟨w.heap.size, 1, none⟩) HK1.out.lt).trans k1
        have hl2 : w.heap.size < w2.heap.size := Nat.lt_of_lt_of_le HK1.out.lt hb2.size
        have hmk := run_mkNest i (by omega)
        have HM3 := nstM_made w2 i
        have hb3 := hb2.alloc hb2.size (.cells (madeCells #[Value.int .i64 0, .int .i64 0, .int .i64 0] (i * 3)) 99)
        generalize (.cells (madeCells #[Value.int .i64 0, .int .i64 0, .int .i64 0] (i * 3)) 99 : Obj) = on at *
        generalize tablesE F = te at *
        subst ht
        go_wp2_with fail
        have hbw : w.heap.size < w2.heap.size := hl2
        have HB3 := Lib.hid hb3
        have HM3' := Lib.hid HM3
        have hz3 : Hid (w2.heap.size < (w2.alloc on).heap.size) := HM3.lt
        have HGo : Hid (∀ x, x < F.gs.length → GlOk (gl F x) F.gs.length) := fun x hx => by
          rw [HNg.out] at hx ⊢
          exact glyph_ok (scan_zero.1 HS.out x hx)
        clear HM3 hb3 hb2 hmk q1 HTb
        generalize hw3 : w2.alloc on = w3 at *
        clear hw3
        generalize hbb : w2.heap.size = b at *
        clear hbb
        have HFb : Hid (∀ ww, FrX w3.heap.size b w3 ww → Below w.heap.size w ww) := fun ww h => (HB1.out.trans (HB3.out.mono HB1.out.size)).trans (h.below (by have := HB3.out.size; have := HK1.out.lt; omega) (by omega))
        have hzz := hz3.out
        go_loopw [71] (fun vi wr => ∃ (g : Nat) (L : List Nst), g ≤ i ∧ vi = .int .i64 g ∧ visits F g = (0, L) ∧ NstM wr b L ∧ FrX w3.heap.size b w3 wr) (fun x _ => i - (intOf x).toNat)
        case atStart => exact ⟨0, _, by omega, rfl, by rw [← HNg.out]; rfl, HM3'.out, FrX.refl _ _ _⟩
        case round =>
          obtain ⟨g, L, hg, rfl, hvi, hmm, hff⟩ := hrel
          have HVi := Lib.hid hvi
          have HMm := Lib.hid hmm
          have HFf := Lib.hid hff
          have HKw : Hid (Blk wr w.heap.size _ _) := (HK1.out.below HB3.out HK1.out.lt).frx hff (by omega) (by omega)
          have hkw := HKw.out
          have q0 := hkw.cell 0
          have q1 := hkw.cell 1
          have q2 := hkw.cell 2
          have q3 := hkw.cell 3
          simp at q0 q1 q2 q3
          by_cases hlt2 : g < i
          · have hvs := visits_succ hvi
            have hle : L.length = F.gs.length := by have := visits_keeps F g; rw [hvi] at this; exact this
            have hfr : fresh L < F.gs.length + 1 := by have := visits_fresh (F := F) g; rw [hvi] at this; exact this
            have hbd : Bd L := by have := visits_bd (own_all HGo.out) g; rw [hvi] at this; exact this
            have HVa := visit_any F _ _ b (by rw [HNg.out]; omega) HGo.out (fun h => by have := h.2; omega) (F.gs.length + 1) g L wr (HFv.out wr (HFb.out wr hff)) hmm hle (by rw [HNg.out]; exact hlt2) hfr hbd
            unfold VisPost at HVa
            rw [← hvs, HNg.out] at HVa
            have HVh := Lib.hid HVa
            have HLt : Hid ((visits F (g + 1)).1 ≠ 0 → checkE F = (visits F (g + 1)).1) := fun h => by
              have := visits_late F h (i - (g + 1))
              rw [show g + 1 + (i - (g + 1)) = i by omega] at this
              rw [HEe.out]; unfold nestsE; rw [HNg.out, this, if_neg h]
            have HNx : Hid ((visits F (g + 1)).1 = 0 → visits F (g + 1) = (0, (visits F (g + 1)).2)) := fun h => by rw [← h]
            generalize (visits F (g + 1)).1 = e0 at *
            generalize hL2 : (visits F (g + 1)).2 = L2 at *
            clear hvs hle hfr hbd HVa hvi hmm hff hkw hL2
            go_wp2_with fail
            refine HVh.out.mono ?_
            rintro e w5 ⟨rfl, hm5, hf5⟩
            have HM5 := Lib.hid hm5
            have HF5 := Lib.hid (HFf.out.trans (hf5.mono HFf.out.size))
            clear hm5 hf5 q0 q1 q2 q3
            by_cases he0 : e0 = 0
            · subst he0
              go_wp2
              go_roundw
              case rel => exact ⟨g + 1, L2, by omega, by go_num, HNx.out (by first | rfl | trivial), HM5.out, HF5.out⟩
              case measure => simp [intOf]; omega
            · go_wp2
              go_ret
              exact ⟨endInt (HLt.out he0).symm, HFb.out _ HF5.out⟩
          · obtain rfl : g = i := by omega
            have HEf : Hid (checkE F = if scan (fun x => nestE (nst L x)) g = 0 then lastE F else scan (fun x => nestE (nst L x)) g) := by
              unfold Hid; rw [HEe.out]; unfold nestsE; rw [HNg.out, hvi]; rfl
            have hle : L.length = g := by have := visits_keeps F g; rw [hvi, HNg.out] at this; exact this
            have HLe := Lib.hid hle
            have hbr : b < wr.heap.size := hmm.lt
            have HB6 : Hid (Below w.heap.size w wr) := HFb.out wr hff
            clear hvi hmm hff hkw hle q1 q2 q3 q0
            obtain ⟨w6, rfl⟩ : ∃ x, x = wr := ⟨_, rfl⟩
            go_wp2
            go_loopw [84] (fun vi wq => ∃ j : Nat, j ≤ g ∧ vi = .int .i64 j ∧ scan (fun x => nestE (nst L x)) j = 0 ∧ Below w6.heap.size w6 wq) (fun x _ => g - (intOf x).toNat)
            case atStart => exact ⟨0, by omega, rfl, rfl, Below.refl _ _⟩
            case round =>
              obtain ⟨j, hj, rfl, hsj, hbj⟩ := hrel
              have HSj := Lib.hid hsj
              have HBj := Lib.hid hbj
              have HBw : Hid (Below w.heap.size w wr) := HB6.out.trans (hbj.mono HB6.out.size)
              have hmj := HMm.out.keep hbj.size (hbj.block b hbr)
              by_cases hltj : j < g
              · obtain ⟨s0, s1, s2⟩ := hmj.cells (g := j) (by rw [HLe.out]; exact hltj)
                have HA : Hid (∀ e : Int, nestE (nst L j) = e → e ≠ 0 → checkE F = e) := fun e h1 h2 => by
                  have h3 : scan (fun x => nestE (nst L x)) g = e := by
                    rw [← h1]; exact scan_at (f := fun x => nestE (nst L x)) hltj HSj.out (by show nestE (nst L j) ≠ 0; rw [h1]; exact h2)
                  rw [HEf.out, h3, if_neg h2]
                have HZ : Hid (nestE (nst L j) = 0 → scan (fun x => nestE (nst L x)) (j + 1) = 0) := fun h1 => by rw [scan_succ HSj.out]; exact h1
                have HP : Hid (nestE (nst L j) = if 4 < (nst L j).dp then 15 else if 512 < (nst L j).pt then 2 else 0) := rfl
                generalize nestE (nst L j) = e0 at *
                generalize (nst L j).dp = dp at *
                generalize (nst L j).pt = pt at *
                generalize ((nst L j).st.val : Int) = st at *
                clear hsj hbj hmj
                by_cases h4 : 4 < dp
                · have HP1 : Hid (e0 = 15) := by unfold Hid; rw [HP.out, if_pos h4]
                  go_wp2
                  go_ret
                  exact ⟨endInt (HA.out 15 HP1.out (by decide)).symm, HBw.out.alloc HBw.out.size _⟩
                · by_cases h5 : 512 < pt
                  · have HP1 : Hid (e0 = 2) := by unfold Hid; rw [HP.out, if_neg h4, if_pos h5]
                    go_wp2
                    go_ret
                    exact ⟨endInt (HA.out 2 HP1.out (by decide)).symm, HBw.out.alloc HBw.out.size _⟩
                  · have HP1 : Hid (e0 = 0) := by unfold Hid; rw [HP.out, if_neg h4, if_neg h5]
                    go_wp2
                    go_roundw
                    case rel => exact ⟨j + 1, by omega, by go_num, HZ.out HP1.out, HBj.out.alloc HBj.out.size _⟩
                    case measure => simp [intOf]; omega
              · obtain rfl : j = g := by omega
                have HEg : Hid (checkE F = lastE F) := by unfold Hid; rw [HEf.out, if_pos HSj.out]
                have hkw := HK1.out.below (HB3.out) HK1.out.lt
                have HKw : Hid (∀ o, wr.cell? ⟨w.heap.size, o, none⟩ = w1.cell? ⟨w.heap.size, o, none⟩) := fun o =>
                  (hbj.cell (p := ⟨w.heap.size, o, none⟩) (by show w.heap.size < w6.heap.size; omega)).trans ((HFf.out.cell (k := w.heap.size) (by omega) (by omega) o).trans (HB3.out.cell (p := ⟨w.heap.size, o, none⟩) HK1.out.lt))
                have q0 := (HKw.out 0).trans k0
                have q1 := (HKw.out 1).trans k1
                have q2 := (HKw.out 2).trans k2
                have q3 := (HKw.out 3).trans k3
                have HWr := Lib.hid (written_any F _ _ wr (HFv.out wr HBw.out) (by rw [HNg.out]; omega) HGo.out (by rw [HNm.out]; omega) (by rw [HNk.out]; omega) (HTw.out wr HBw.out) (Nat.lt_of_lt_of_le h0 HBw.out.size))
                have hLa : lastE F = if 4096 < (Fnt.written F).length then 2 else 0 := rfl
                obtain ⟨s, hs⟩ : ∃ s : ByteArray, s = ⟨(Fnt.written F).toArray⟩ := ⟨_, rfl⟩
                rw [← hs] at HWr
                have hsz : s.size = (Fnt.written F).length := by rw [hs]; simp [ByteArray.size]
                rw [← hsz] at hLa
                have HLa := Lib.hid hLa
                clear hs hsz hLa hsj hbj hkw hmj k0 k1 k2 k3
                by_cases h4 : 4096 < s.size
                · have HP1 : Hid (checkE F = 2) := by unfold Hid; rw [HEg.out, HLa.out, if_pos h4]
                  go_wp2_with fail
                  refine HWr.out.mono ?_
                  rintro e w9 ⟨rfl, hb9⟩
                  have HB9 : Hid (Below w.heap.size w w9) := HBw.out.trans (hb9.mono HBw.out.size)
                  clear hb9
                  go_wp2
                  go_ret
                  exact ⟨endInt HP1.out.symm, HB9.out⟩
                · have HP1 : Hid (checkE F = 0) := by unfold Hid; rw [HEg.out, HLa.out, if_neg h4]
                  go_wp2_with fail
                  refine HWr.out.mono ?_
                  rintro e w9 ⟨rfl, hb9⟩
                  have HB9 : Hid (Below w.heap.size w w9) := HBw.out.trans (hb9.mono HBw.out.size)
                  clear hb9
                  go_wp2
                  go_ret
                  exact ⟨endInt HP1.out.symm, HB9.out⟩
      · generalize tablesE F = te at *
        have HEe : Hid (checkE F = te) := by unfold Hid; rw [HEd.out, if_neg ht]
        go_wp2
        go_ret
        exact ⟨endInt HEe.out.symm, HB2w.out⟩
end Go.Proofs.YtefkglmdkjkbiaaDoor
