/- What is written is decoded, in plain words; the walk of FontEncodeDecode. -/
import Derived.Test.YtefkglmdkjkbiaaDoorFntDec
import Derived.Test.YtefkglmdkjkbiaaDoorFntEq
import Derived.Test.YtefkglmdkjkbiaaDoorFntFs
namespace Go.Proofs.YtefkglmdkjkbiaaDoor
open Go.RowKit Fnt
theorem written_small {F : Font} (h : checkE F = 0) : (Fnt.written F).length ≤ 4096 := by
  have h1 := (fok h).ns
  unfold nestsE at h1
  split at h1
  · split at h1
    · unfold lastE at h1
      split at h1
      · omega
      · omega
    · rename_i h2; exact absurd h1 h2
  · rename_i h2; exact absurd h1 h2
theorem wr_size (F : Font) : (⟨(Fnt.written F).toArray⟩ : ByteArray).size = (Fnt.written F).length := by simp [ByteArray.size]
theorem wr_head (F : Font) : Fnt.written F = [102, 111, 110, 116] ++ (Fnt.written F).drop 4 := by
  unfold Fnt.written Fnt.head; simp [List.append_assoc]
theorem decU_app (r : List UInt8) : decU ⟨([102, 111, 110, 116] ++ r).toArray⟩ = ⟨r, false⟩ := by
  have hp : hasP ⟨([102, 111, 110, 116] ++ r).toArray⟩ fontB = true := hasP_append [102, 111, 110, 116] r
  have hz : fontB.size = 4 := rfl
  have hs : (⟨([102, 111, 110, 116] ++ r).toArray⟩ : ByteArray).size = r.length + 4 := by simp [ByteArray.size]
  unfold decU trimB
  rw [if_pos hp, hz, hs, ByteArray.data_extract]
  congr 1
  simp
theorem decU_written (F : Font) : decU ⟨(Fnt.written F).toArray⟩ = ⟨(Fnt.written F).drop 4, false⟩ := by
  have := decU_app ((Fnt.written F).drop 4)
  rw [← wr_head F] at this
  exact this
theorem dec_written {F : Font} (h : checkE F = 0) : dec ⟨(Fnt.written F).toArray⟩ = (F, 0) := by
  have hr := rd_font (fok h)
  unfold dec
  rw [if_neg (by rw [wr_size]; have := written_small h; omega), decU_written, hr.1, hr.2, if_neg]
  rintro (h1 | h1 | h1)
  · cases h1
  · exact h1 h
  · exact h1 rfl
theorem dec_cases (s : ByteArray) (h : s.size ≤ 4096) : dec s = (zeroF, 4) ∨ ∃ G, dec s = (G, 0) ∧ checkE G = 0 ∧ Fnt.written G = s.data.toList := by
  unfold dec
  rw [if_neg (by omega)]
  split
  · exact .inl rfl
  · rename_i h1
    simp only [not_or, Decidable.not_not] at h1
    exact .inr ⟨_, rfl, h1.2.1, h1.2.2⟩
theorem fnt_form {F : Font} {v : Value} {ok : Nat → Prop} {w : World} (h : FntV w ok v F) : ∃ Ag cg Am cm Ak ck, v = .agg #[.int .i64 F.unit, .slice Ag F.gs.length cg, .slice Am F.map.length cm, .slice Ak F.kern.length ck] ∧
    SlM w ok (.slice Am F.map.length cm) F.map.length (F.map.flatMap rgc) ∧ SlM w ok (.slice Ak F.kern.length ck) F.kern.length (F.kern.flatMap kpc) := by
  obtain ⟨vg, vm, vk, rfl, hgs, hmp, hkn⟩ := h
  obtain ⟨vs, ⟨A, c, rfl, _⟩, _⟩ := hgs
  obtain ⟨Am, cm, rfl⟩ := SlM.form hmp
  obtain ⟨Ak, ck, rfl⟩ := SlM.form hkn
  exact ⟨A, c, Am, cm, Ak, ck, rfl, hmp, hkn⟩
set_option maxRecDepth 100000 in
set_option maxHeartbeats 8000000 in
theorem encdec_any (F : Font) (fv : Value) (w : World) (hf : FntV w (fun _ => True) fv F) (hT : Tab w) (h0 : 0 < w.heap.size) :
    Calls Tryd.prog 5 #[fv] w fun e w' => e = .returned (.bool true) ∧ Below w.heap.size w w' := by
  have HTw : Hid (∀ ww, Below w.heap.size w ww → Tab ww) := fun ww hb i hi => (hb.cell (p := ⟨0, i, none⟩) h0).trans (hT i hi)
  have HFo := Lib.hid fun W (hb : Below w.heap.size w W) => fonts_any W (HTw.out W hb) (Nat.lt_of_lt_of_le h0 hb.size)
  have HEn := Lib.hid fun W (hb : Below w.heap.size w W) => encode_any F fv _ W (hf.later hb) (HTw.out W hb) (Nat.lt_of_lt_of_le h0 hb.size)
  have HCh := Lib.hid fun W (hb : Below w.heap.size w W) => check_any F fv _ W (hf.later hb) (HTw.out W hb) (Nat.lt_of_lt_of_le h0 hb.size)
  have HFv := Lib.hid fun W (hb : Below w.heap.size w W) => hf.later hb
  obtain ⟨Ag, cg, Am, cm, Ak, ck, rfl, hmp, hkn⟩ := fnt_form hf
  have HMp := Lib.hid hmp
  have HKn := Lib.hid hkn
  have hb1 := (Below.refl w.heap.size w).alloc (Nat.le_refl _) (.cells #[.int .i64 F.unit, .slice Ag F.gs.length cg, .slice Am F.map.length cm, .slice Ak F.kern.length ck] 26)
  have hk1 := Blk.new w 26 #[.int .i64 F.unit, .slice Ag F.gs.length cg, .slice Am F.map.length cm, .slice Ak F.kern.length ck]
  generalize hw1 : w.alloc (.cells #[.int .i64 F.unit, .slice Ag F.gs.length cg, .slice Am F.map.length cm, .slice Ak F.kern.length ck] 26) = w1 at *
  have HF1 := Lib.hid (HFo.out w1 hb1)
  have HB1 := Lib.hid hb1
  have HK1 := Lib.hid hk1
  have k0 := hk1.cell 0
  have k1 := hk1.cell 1
  have k2 := hk1.cell 2
  have k3 := hk1.cell 3
  simp only [List.getElem?_toArray, List.getElem?_cons_zero, List.getElem?_cons_succ] at k0 k1 k2 k3
  clear hb1 hk1 hmp hkn hf hT
  go_enter Tryd.func5, Tryd.ntmps5
  go_wp2_with fail
  refine HF1.out.mono ?_
  rintro e w2 ⟨rfl, hb2⟩
  have HB2 := Lib.hid (HB1.out.trans (hb2.mono HB1.out.size))
  have HC2 : Hid (∀ o, w2.cell? ⟨w.heap.size, o, none⟩ = w1.cell? ⟨w.heap.size, o, none⟩) := fun o => hb2.cell (p := ⟨w.heap.size, o, none⟩) HK1.out.lt
  have HE2 := Lib.hid (HEn.out w2 HB2.out)
  have hz2 : w.heap.size < w2.heap.size := Nat.lt_of_lt_of_le HK1.out.lt hb2.size
  have q0 := (HC2.out 0).trans k0
  have q1 := (HC2.out 1).trans k1
  have q2 := (HC2.out 2).trans k2
  have q3 := (HC2.out 3).trans k3
  clear hb2
  have hEv : encV F = if checkE F = 0 then .tuple #[.string ⟨(Fnt.written F).toArray⟩, .int .i64 0] else .tuple #[.string ⟨#[]⟩, .int .i64 (checkE F)] := rfl
  by_cases hc : checkE F = 0
  · have hfk := fok hc
    have hdw := dec_written hc
    have hws := written_small hc
    rw [if_pos hc] at hEv
    rw [hEv] at HE2
    have HEv := Lib.hid hEv
    have hsz := wr_size F
    rw [← hsz] at hws
    obtain ⟨S, hS⟩ : ∃ S : ByteArray, S = ⟨(Fnt.written F).toArray⟩ := ⟨_, rfl⟩
    rw [← hS] at HE2 hdw hws HEv
    have HDw := Lib.hid hdw
    have HDc := Lib.hid fun W (hb : Below w.heap.size w W) => decode_any S W hws (HTw.out W hb) (Nat.lt_of_lt_of_le h0 hb.size)
    have hm1 := hfk.m1
    have hkk := hfk.k1
    clear hEv hS hsz hdw hfk hc
    go_wp2_with fail
    refine HE2.out.mono ?_
    rintro e w3 ⟨rfl, hb3⟩
    have HB3 := Lib.hid (HB2.out.trans (hb3.mono HB2.out.size))
    have HC3 : Hid (∀ o, w3.cell? ⟨w.heap.size, o, none⟩ = w1.cell? ⟨w.heap.size, o, none⟩) := fun o => (hb3.cell (p := ⟨w.heap.size, o, none⟩) hz2).trans (HC2.out o)
    have HD3 := Lib.hid (HDc.out w3 HB3.out)
    have hz3 : w.heap.size < w3.heap.size := Nat.lt_of_lt_of_le hz2 hb3.size
    clear hb3 q0 q1 q2 q3
    go_wp2_with fail
    refine HD3.out.mono ?_
    rintro e w4 ⟨gv, rfl, hgv, hb4⟩
    rw [HDw.out] at hgv ⊢
    dsimp only at hgv ⊢
    obtain ⟨Bg, dg, Bm, dm, Bk, dk, rfl, hgm, hgk⟩ := fnt_form hgv
    have hb5 := (HB3.out.trans (hb4.mono HB3.out.size)).alloc (Nat.le_trans HB3.out.size hb4.size) (.cells #[.int .i64 F.unit, .slice Bg F.gs.length dg, .slice Bm F.map.length dm, .slice Bk F.kern.length dk] 26)
    have HC5 : Hid (∀ o, (w4.alloc (.cells #[.int .i64 F.unit, .slice Bg F.gs.length dg, .slice Bm F.map.length dm, .slice Bk F.kern.length dk] 26)).cell? ⟨w.heap.size, o, none⟩ = w1.cell? ⟨w.heap.size, o, none⟩) := fun o =>
      (cell_lt w4 _ ⟨w.heap.size, o, none⟩ (Nat.lt_of_lt_of_le hz3 hb4.size)).trans ((hb4.cell (p := ⟨w.heap.size, o, none⟩) hz3).trans (HC3.out o))
    have hk5 := Blk.new w4 26 #[.int .i64 F.unit, .slice Bg F.gs.length dg, .slice Bm F.map.length dm, .slice Bk F.kern.length dk]
    have hE5 := encode_any F _ _ (w4.alloc (.cells #[.int .i64 F.unit, .slice Bg F.gs.length dg, .slice Bm F.map.length dm, .slice Bk F.kern.length dk] 26)) (hgv.later ((Below.refl _ _).alloc (Nat.le_refl _) _)) (HTw.out _ hb5) (Nat.lt_of_lt_of_le h0 hb5.size)
    rw [HEv.out] at hE5
    have HE5 := Lib.hid hE5
    have hgm5 : SlM _ _ _ _ _ := hgm.later ((Below.refl w4.heap.size w4).alloc (Nat.le_refl _) (.cells #[.int .i64 F.unit, .slice Bg F.gs.length dg, .slice Bm F.map.length dm, .slice Bk F.kern.length dk] 26))
    have hgk5 : SlM _ _ _ _ _ := hgk.later ((Below.refl w4.heap.size w4).alloc (Nat.le_refl _) (.cells #[.int .i64 F.unit, .slice Bg F.gs.length dg, .slice Bm F.map.length dm, .slice Bk F.kern.length dk] 26))
    have hz4 : w.heap.size < w4.heap.size := Nat.lt_of_lt_of_le hz3 hb4.size
    generalize hw5 : w4.alloc (.cells #[.int .i64 F.unit, .slice Bg F.gs.length dg, .slice Bm F.map.length dm, .slice Bk F.kern.length dk] 26) = w5 at *
    have HW5 := Lib.hid hw5
    have HB5 := Lib.hid hb5
    have HK5 := Lib.hid hk5
    have HGm := Lib.hid hgm5
    have HGk := Lib.hid hgk5
    clear hw5 hb5 hk5 hgv hb4 hE5 hgm hgk hgm5 hgk5
    go_wp2_with fail
    rw [HW5.out]
    refine HE5.out.mono ?_
    rintro e w6 ⟨rfl, hb6⟩
    have hz5 : w4.heap.size < w5.heap.size := HK5.out.lt
    have HB6 := Lib.hid (HB5.out.trans (hb6.mono HB5.out.size))
    have r0 := (hb6.cell (p := ⟨w4.heap.size, 0, none⟩) hz5).trans ((HK5.out.cell 0).trans rfl)
    have r1 := (hb6.cell (p := ⟨w4.heap.size, 1, none⟩) hz5).trans ((HK5.out.cell 1).trans rfl)
    have r2 := (hb6.cell (p := ⟨w4.heap.size, 2, none⟩) hz5).trans ((HK5.out.cell 2).trans rfl)
    have r3 := (hb6.cell (p := ⟨w4.heap.size, 3, none⟩) hz5).trans ((HK5.out.cell 3).trans rfl)
    have hz5' : w.heap.size < w5.heap.size := by omega
    have HC6 : Hid (∀ o, w6.cell? ⟨w.heap.size, o, none⟩ = w1.cell? ⟨w.heap.size, o, none⟩) := fun o => (hb6.cell (p := ⟨w.heap.size, o, none⟩) hz5').trans (HC5.out o)
    have q0 := (HC6.out 0).trans k0
    have q1 := (HC6.out 1).trans k1
    have q2 := (HC6.out 2).trans k2
    have q3 := (HC6.out 3).trans k3
    have HEq := Lib.hid (equal_rg (.slice Bm F.map.length dm) (.slice Am F.map.length cm) F.map _ _ w6 (HGm.out.later hb6) (HMp.out.later HB6.out) (by omega))
    have HEk := Lib.hid fun W (hb : Below w6.heap.size w6 W) => equal_kp (.slice Bk F.kern.length dk) (.slice Ak F.kern.length ck) F.kern _ _ W ((HGk.out.later hb6).later hb) ((HKn.out.later HB6.out).later hb) (by omega)
    have hsz6 := hb6.size
    clear hb6
    generalize F.unit = un at *
    generalize F.gs.length = N at *
    generalize F.map.length = nm at *
    generalize F.kern.length = nk at *
    go_wp2_with fail
    refine HEq.out.mono ?_
    rintro e w7 ⟨rfl, hb7⟩
    have HE7 := Lib.hid (HEk.out w7 hb7)
    have HB7 := Lib.hid (HB6.out.trans (hb7.mono HB6.out.size))
    have hl6 : w4.heap.size < w6.heap.size := Nat.lt_of_lt_of_le hz5 hsz6
    have hsz7 := hb7.size
    have HC7 : Hid (∀ o, w7.cell? ⟨w.heap.size, o, none⟩ = w1.cell? ⟨w.heap.size, o, none⟩) := fun o => (hb7.cell (p := ⟨w.heap.size, o, none⟩) (by show w.heap.size < w6.heap.size; omega)).trans (HC6.out o)
    have s3 := (hb7.cell (p := ⟨w4.heap.size, 3, none⟩) hl6).trans r3
    have s0 := (hb7.cell (p := ⟨w4.heap.size, 0, none⟩) hl6).trans r0
    have q0 := (HC7.out 0).trans k0
    have q3 := (HC7.out 3).trans k3
    simp only [List.getElem?_toArray, List.getElem?_cons_zero, List.getElem?_cons_succ] at s0 s3
    clear hb7 r0 r1 r2 r3 q1 q2
    go_wp2_with fail
    refine HE7.out.mono ?_
    rintro e w8 ⟨rfl, hb8⟩
    have HB8 := Lib.hid (HB7.out.trans (hb8.mono HB7.out.size))
    have HC8 : Hid (∀ o, w8.cell? ⟨w.heap.size, o, none⟩ = w1.cell? ⟨w.heap.size, o, none⟩) := fun o => (hb8.cell (p := ⟨w.heap.size, o, none⟩) (by show w.heap.size < w7.heap.size; omega)).trans (HC7.out o)
    have t0 := (hb8.cell (p := ⟨w4.heap.size, 0, none⟩) (World.block_lt_of_cell? w7 _ s0)).trans s0
    have q0 := (HC8.out 0).trans k0
    clear hb8 s0 s3 q3
    go_wp2
    go_ret
    exact ⟨rfl, HB8.out⟩
  · rw [if_neg hc] at hEv
    rw [hEv] at HE2
    have hCh := HCh.out
    clear hEv
    have hne : (checkE F != 0) = true := by simpa using hc
    generalize checkE F = e0 at *
    have HCh2 := Lib.hid hCh
    clear hCh hc
    go_wp2_with fail
    refine HE2.out.mono ?_
    rintro e w3 ⟨rfl, hb3⟩
    have HB3 := Lib.hid (HB2.out.trans (hb3.mono HB2.out.size))
    have HC3 : Hid (∀ o, w3.cell? ⟨w.heap.size, o, none⟩ = w1.cell? ⟨w.heap.size, o, none⟩) := fun o => (hb3.cell (p := ⟨w.heap.size, o, none⟩) hz2).trans (HC2.out o)
    have HD3 := Lib.hid (HCh2.out w3 HB3.out)
    have q0 := (HC3.out 0).trans k0
    have q1 := (HC3.out 1).trans k1
    have q2 := (HC3.out 2).trans k2
    have q3 := (HC3.out 3).trans k3
    clear hb3
    go_wp2_with fail
    refine HD3.out.mono ?_
    rintro e w4 ⟨rfl, hb4⟩
    have HB4 := Lib.hid (HB3.out.trans (hb4.mono HB3.out.size))
    clear hb4
    go_wp2
    go_ret
    exact ⟨by simp, HB4.out⟩
end Go.Proofs.YtefkglmdkjkbiaaDoor
