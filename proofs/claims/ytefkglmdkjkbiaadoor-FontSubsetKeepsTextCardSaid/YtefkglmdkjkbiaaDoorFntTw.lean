/- The walk of FontSubsetTwice. -/
import Derived.Test.YtefkglmdkjkbiaaDoorFntSbB
import Derived.Test.YtefkglmdkjkbiaaDoorFntRt
import Derived.IntWalk
namespace Go.Proofs.YtefkglmdkjkbiaaDoor
open Go.RowKit Fnt
theorem sub_any (F : Font) (fv : Value) (codes : List Int) (cv : Value) (okc ok : Nat → Prop) (w : World) (hf : FntV w ok fv F) (hc : Sl w okc cv (ints codes)) (hT : Tab w) (h0 : 0 < w.heap.size) :
    Calls Tryd.prog 18 #[fv, cv] w (SubPost F codes w) := by
  by_cases hok : checkE F = 0
  · by_cases hl : 1024 < codes.length
    · obtain ⟨A, c, rfl⟩ := hc.form
      rw [ints_length]
      exact sub_large F fv A c codes ok w hf hT h0 hok hl
    · exact sub_ok F fv codes cv okc ok w hf hc hT h0 hok (by omega)
  · exact sub_bad F fv cv codes ok w hf hT h0 hok
/-- A subset that is answered without error, in plain words. -/
theorem sub_good {F : Font} {codes : List Int} {r : Font × List Nat × Int} (h : SubIs F codes r) (h0 : r.2.2 = 0) :
    checkE F = 0 ∧ codes.length ≤ 1024 ∧ ∃ cs, Cs F codes cs ∧ checkE (subF F cs) = 0 ∧ r = (subF F cs, oldOf (keepOf F cs), 0) := by
  unfold SubIs at h
  split at h
  · rename_i h1; subst h; exact absurd h0 h1
  · rename_i h1
    split at h
    · subst h; exact absurd h0 (by decide)
    · obtain ⟨cs, hc, rfl⟩ := h
      refine ⟨by omega, by omega, cs, hc, ?_⟩
      unfold subA at h0 ⊢
      split at h0
      · rename_i h2; rw [if_pos h2]; exact ⟨h2, rfl⟩
      · rename_i h2; exact absurd h0 h2
theorem cs_unique {F : Font} {codes a b : List Int} (ha : Cs F codes a) (hb : Cs F codes b) : a = b := inc_unique ha.inc hb.inc fun c => (ha.mem c).trans (hb.mem c).symm
theorem sub_twice {F : Font} {codes : List Int} {r : Font × List Nat × Int} (h : SubIs F codes r) (h0 : r.2.2 = 0) :
    checkE r.1 = 0 ∧ ∀ q, SubIs r.1 codes q → q = (r.1, List.range r.1.gs.length, 0) := by
  obtain ⟨h1, h2, cs, hc, h3, rfl⟩ := sub_good h h0
  refine ⟨h3, fun q hq => ?_⟩
  dsimp only at hq ⊢
  have hF := fok h1
  have hS := fok h3
  unfold SubIs at hq
  rw [if_neg (fun h => h h3), if_neg (by omega)] at hq
  obtain ⟨cs', hc', rfl⟩ := hq
  obtain rfl := cs_unique hc' (cs_sub hF hS hc)
  obtain ⟨e1, e2⟩ := sub_sub hF hS hc
  unfold subA
  rw [e1, if_pos h3, e2]
set_option maxRecDepth 100000 in
set_option maxHeartbeats 8000000 in
theorem twice_any (F : Font) (fv cv : Value) (codes : List Int) (w : World) (hf : FntV w (fun _ => True) fv F) (hc : Sl w (fun _ => True) cv (ints codes)) (hT : Tab w) (h0 : 0 < w.heap.size) :
    Calls Tryd.prog 6 #[fv, cv] w fun e w' => e = .returned (.bool true) ∧ Below w.heap.size w w' := by
  have HTw : Hid (∀ ww, Below w.heap.size w ww → Tab ww ∧ 0 < ww.heap.size) := fun ww hb => ⟨fun i hi => (hb.cell (p := ⟨0, i, none⟩) h0).trans (hT i hi), Nat.lt_of_lt_of_le h0 hb.size⟩
  have HFo := Lib.hid fun W (hb : Below w.heap.size w W) => fonts_any W (HTw.out W hb).1 (HTw.out W hb).2
  have HS1 := Lib.hid fun W (hb : Below w.heap.size w W) => sub_any F fv codes cv _ _ W (hf.later hb) (hc.later hb) (HTw.out W hb).1 (HTw.out W hb).2
  have HS2 := Lib.hid fun G v ok W (hb : Below w.heap.size w W) (h : FntV W ok v G) => sub_any G v codes cv _ _ W h (hc.later hb) (HTw.out W hb).1 (HTw.out W hb).2
  have HEn := Lib.hid fun G v ok W (hb : Below w.heap.size w W) (h : FntV W ok v G) => encode_any G v ok W h (HTw.out W hb).1 (HTw.out W hb).2
  obtain ⟨Ac, cc, rfl⟩ := hc.form
  obtain ⟨Ag, cg, Am, cm, Ak, ck, rfl, _, _⟩ := fnt_form hf
  have hb1 := (Below.refl w.heap.size w).alloc (Nat.le_refl _) (.cells #[.int .i64 F.unit, .slice Ag F.gs.length cg, .slice Am F.map.length cm, .slice Ak F.kern.length ck] 26)
  have hk1 := Blk.new w 26 #[.int .i64 F.unit, .slice Ag F.gs.length cg, .slice Am F.map.length cm, .slice Ak F.kern.length ck]
  generalize hw1 : w.alloc (.cells #[.int .i64 F.unit, .slice Ag F.gs.length cg, .slice Am F.map.length cm, .slice Ak F.kern.length ck] 26) = w1 at *
  have HF1 := Lib.hid (HFo.out w1 hb1)
  have HB1 := Lib.hid hb1
  have HK1 := Lib.hid hk1
  have HW1 := Lib.hid hw1
  clear hb1 hk1 hf hT hc HFo hw1
  unfold SubPost at HS1 HS2
  go_enter Tryd.func6, Tryd.ntmps6
  go_wp2_with fail
  rw [HW1.out]
  refine HF1.out.mono ?_
  rintro e w2 ⟨rfl, hb2⟩
  have HB2 := Lib.hid (HB1.out.trans (hb2.mono HB1.out.size))
  have hk2 := HK1.out.below hb2 HK1.out.lt
  have q0 := hk2.cell 0
  have q1 := hk2.cell 1
  have q2 := hk2.cell 2
  have q3 := hk2.cell 3
  simp only [List.getElem?_toArray, List.getElem?_cons_zero, List.getElem?_cons_succ] at q0 q1 q2 q3
  have lw2 := hk2.lt
  clear hb2 hk2
  go_wp2_with fail
  refine (HS1.out w2 HB2.out).mono ?_
  rintro e w3 ⟨r, vf, vo, hr, rfl, hvf, hvo, hb3⟩
  have HB3 := Lib.hid (HB2.out.trans (hb3.mono HB2.out.size))
  obtain ⟨Bg, dg, Bm, dm, Bk, dk, rfl, _, _⟩ := fnt_form hvf
  obtain ⟨Bo, do_, rfl⟩ := hvo.form
  have HR := Lib.hid hr
  have HVf := Lib.hid hvf
  have HVo := Lib.hid hvo
  clear hr hvf hvo hb3
  obtain ⟨S, od, e0⟩ := r
  dsimp only at *
  by_cases hz : e0 = 0
  · subst hz
    obtain ⟨hcS, hq⟩ := sub_twice HR.out rfl
    dsimp only at hcS hq
    have HCs := Lib.hid hcS
    have HQ := Lib.hid hq
    clear hq hcS
    have hb4 := HB3.out.alloc HB3.out.size (.cells #[.int .i64 S.unit, .slice Bg S.gs.length dg, .slice Bm S.map.length dm, .slice Bk S.kern.length dk] 26)
    have hk4 := Blk.new w3 26 #[.int .i64 S.unit, .slice Bg S.gs.length dg, .slice Bm S.map.length dm, .slice Bk S.kern.length dk]
    have HV4 := Lib.hid (HVf.out.later ((Below.refl w3.heap.size w3).alloc (Nat.le_refl _) (.cells #[.int .i64 S.unit, .slice Bg S.gs.length dg, .slice Bm S.map.length dm, .slice Bk S.kern.length dk] 26)))
    generalize hw4 : w3.alloc (.cells #[.int .i64 S.unit, .slice Bg S.gs.length dg, .slice Bm S.map.length dm, .slice Bk S.kern.length dk] 26) = w4 at *
    have HB4 := Lib.hid hb4
    have HK4 := Lib.hid hk4
    have HW4 := Lib.hid hw4
    have HSb := Lib.hid (HS2.out S _ _ w4 hb4 HV4.out)
    clear hb4 hk4 hw4
    go_wp2_with fail
    rw [HW4.out]
    refine HSb.out.mono ?_
    rintro e w5 ⟨q, vt, vp, hq, rfl, hvt, hvp, hb5⟩
    obtain rfl := HQ.out q hq
    dsimp only at *
    have HB5 := Lib.hid (HB4.out.trans (hb5.mono HB4.out.size))
    obtain ⟨Cg, eg, Cm, em, Ck, ek, rfl, _, _⟩ := fnt_form hvt
    obtain ⟨Cp, ep, rfl⟩ := hvp.form
    have hpl : (ints ((List.range S.gs.length).map Int.ofNat)).length = S.gs.length := by rw [ints_length, List.length_map, List.length_range]
    rw [hpl] at hvp ⊢
    have hk5 := HK4.out.below hb5 HK4.out.lt
    have hV5 := HV4.out.later hb5
    have HVp := Lib.hid hvp
    have HVt := Lib.hid hvt
    have HV5 := Lib.hid hV5
    have HK5 := Lib.hid hk5
    have hb6 := HB5.out.alloc HB5.out.size (.cells #[.int .i64 S.unit, .slice Cg S.gs.length eg, .slice Cm S.map.length em, .slice Ck S.kern.length ek] 26)
    have hb56 := (Below.refl w5.heap.size w5).alloc (Nat.le_refl _) (.cells #[.int .i64 S.unit, .slice Cg S.gs.length eg, .slice Cm S.map.length em, .slice Ck S.kern.length ek] 26)
    have hk6 := Blk.new w5 26 #[.int .i64 S.unit, .slice Cg S.gs.length eg, .slice Cm S.map.length em, .slice Ck S.kern.length ek]
    have HE6 := Lib.hid (HEn.out S _ _ _ hb6 (hV5.later hb56))
    have hEv : encV S = .tuple #[.string ⟨(Fnt.written S).toArray⟩, .int .i64 0] := by unfold encV; rw [if_pos HCs.out]
    rw [hEv] at HE6
    generalize hw6 : w5.alloc (.cells #[.int .i64 S.unit, .slice Cg S.gs.length eg, .slice Cm S.map.length em, .slice Ck S.kern.length ek] 26) = w6 at *
    have HB6 := Lib.hid hb6
    have HK6 := Lib.hid hk6
    have HW6 := Lib.hid hw6
    have HB56 := Lib.hid hb56
    have c0 := hk5.cell 0
    have c1 := hk5.cell 1
    have c2 := hk5.cell 2
    have c3 := hk5.cell 3
    simp only [List.getElem?_toArray, List.getElem?_cons_zero, List.getElem?_cons_succ] at c0 c1 c2 c3
    have l5 := hk5.lt
    clear hb5 hvt hvp hk5 hV5 hb6 hb56 hk6 hw6 hEv hq hpl
    go_wp2_with fail
    rw [HW6.out]
    refine HE6.out.mono ?_
    rintro e w7 ⟨rfl, hb7⟩
    have HB7 := Lib.hid (HB6.out.trans (hb7.mono HB6.out.size))
    have hk7 := HK6.out.below hb7 HK6.out.lt
    have HE7 := Lib.hid (HEn.out S _ _ w7 HB7.out ((HVt.out.later HB56.out).later hb7))
    have hEv : encV S = .tuple #[.string ⟨(Fnt.written S).toArray⟩, .int .i64 0] := by unfold encV; rw [if_pos HCs.out]
    rw [hEv] at HE7
    have d0 := hk7.cell 0
    have d1 := hk7.cell 1
    have d2 := hk7.cell 2
    have d3 := hk7.cell 3
    simp only [List.getElem?_toArray, List.getElem?_cons_zero, List.getElem?_cons_succ] at d0 d1 d2 d3
    have l7 := hk7.lt
    have HK57 := Lib.hid ((HK5.out.below HB56.out HK5.out.lt).below hb7 (Nat.lt_of_lt_of_le HK5.out.lt HB56.out.size))
    have HVp7 := Lib.hid ((HVp.out.later HB56.out).later hb7)
    generalize (⟨(Fnt.written S).toArray⟩ : ByteArray) = str at *
    clear hb7 hk7 hEv c0 c1 c2 c3 q0 q1 q2 q3
    go_wp2_with fail
    refine HE7.out.mono ?_
    rintro e w8 ⟨rfl, hb8⟩
    have HB8 := Lib.hid (HB7.out.trans (hb8.mono HB7.out.size))
    have hk8 := HK57.out.below hb8 HK57.out.lt
    have HVp8 := Lib.hid (HVp7.out.later hb8)
    have c1 := hk8.cell 1
    simp only [List.getElem?_toArray, List.getElem?_cons_zero, List.getElem?_cons_succ] at c1
    have l8 := hk8.lt
    clear hb8 hk8 d0 d1 d2 d3
    have hn := (fok HCs.out).n1
    generalize S.gs.length = n at *
    go_wp2
    go_loopw [15, 16, 47] (fun _ _ vi wq => ∃ i : Nat, i ≤ n ∧ vi = .int .i64 i ∧ wq = w8) (fun _ _ i _ => n - (intOf i).toNat)
    case atStart => exact ⟨0, by omega, rfl, rfl⟩
    case round =>
      obtain ⟨i, hi, rfl, rfl⟩ := hrel
      by_cases hlt : i < n
      · obtain ⟨b, off, ea, lb, hcc⟩ := Sl.plainA HVp8.out (by rw [ints_length, List.length_map, List.length_range]; omega)
        subst ea
        have d0 := hcc i (.int .i64 i) (by unfold ints; rw [List.getElem?_map, List.getElem?_map, List.getElem?_range hlt]; rfl)
        go_wp2
        go_roundw
        case rel => exact ⟨i + 1, by omega, by go_num, by first | rfl | trivial⟩
        case measure => simp [intOf]; omega
      · obtain rfl : n = i := by omega
        go_wp2
        go_ret
        exact ⟨rfl, HB8.out⟩
  · go_wp2_with fail
    go_ret
    exact ⟨rfl, HB3.out.alloc HB3.out.size _⟩
end Go.Proofs.YtefkglmdkjkbiaaDoor
