/- The law VaryTableRoundTrip: what Print writes is parsed as the same table. -/
import Derived.Test.YtcbnelklilamgaaDoorVryTbl
namespace Go.Proofs.YtcbnelklilamgaaDoor
open Go.RowKit Vr
theorem print_ok {f : List Src} {rows : List (List Src)} {s : Src} (h : printP f rows = (0, s)) : s = headT f ++ bodyT rows ∧ (∀ r ∈ rows, r ≠ []) ∧ rows.length ≤ 256 := by
  unfold printP at h
  split at h
  · cases h
  next h1 =>
  split at h
  · cases h
  next h2 =>
  split at h
  · next h3 => exact absurd (congrArg Prod.fst h) h3
  obtain ⟨e1, e2, _⟩ := rows_ok _ rows _ s h
  refine ⟨e1, fun r hr e => ?_, by omega⟩
  have := e2 r hr
  rw [e] at this
  exact h2 this.symm
theorem rows_bad (n : Nat) : ∀ (rows : List (List Src)) (acc : Src), (rowsE n acc rows).1 ≠ 0 → (rowsE n acc rows).2 = []
  | [], acc, h => absurd rfl h
  | r :: rs, acc, h => by
    unfold rowsE at h ⊢
    split
    · rfl
    split
    · rfl
    next h1 h2 =>
    rw [if_neg h1, if_neg h2] at h
    exact rows_bad n rs _ h
theorem print_bad {f : List Src} {rows : List (List Src)} (h : (printP f rows).1 ≠ 0) : (printP f rows).2 = [] := by
  unfold printP at h ⊢
  split
  · rfl
  split
  · rfl
  split
  · rfl
  next h1 h2 h3 =>
  rw [if_neg h1, if_neg h2, if_neg h3] at h
  exact rows_bad _ _ _ h
/-- slices.Equal at two slices that read as one list. -/
theorem equal_st (l : List Src) (v u : Value) (P Q : Nat → Prop) (w : World) (h : StM P w v l) (k : StM Q w u l) :
    Calls Tryd.prog 10 #[v, u] w fun e w' => e = .returned (.bool true) ∧ Below w.heap.size w w' := by
  obtain ⟨A1, c1, rfl⟩ := SlM.form h
  obtain ⟨A2, c2, rfl⟩ := SlM.form k
  have hc := h.caps
  have hmx : maxLen = 9223372036854775807 := rfl
  rcases Nat.eq_zero_or_pos l.length with h0 | h0
  · rw [h0]
    refine (slices_Equal_string_empty A1 A2 c1 0 c2 w (by omega)).mono ?_
    rintro e w' ⟨rfl, rfl⟩
    exact ⟨rfl, Below.refl _ _⟩
  · obtain ⟨b1, o1, rfl, _, hc1⟩ := StM.at_ h h0
    obtain ⟨b2, o2, rfl, _, hc2⟩ := StM.at_ k h0
    have hg : ∀ j, j < (l.map Bs).length → ∃ hj : j < l.length, (l.map Bs).getD j ByteArray.empty = Bs l[j] := fun j hj => by
      have hj2 : j < l.length := by simpa using hj
      exact ⟨hj2, by rw [List.getD_eq_getElem?_getD, List.getElem?_map, List.getElem?_eq_getElem hj2]; rfl⟩
    refine (slices_Equal_string b1 o1 l.length c1 b2 o2 l.length c2 (l.map Bs) (l.map Bs) w (by simp) (by simp) (by omega) (by omega) (fun j hj => ?_) (fun j hj => ?_)).mono ?_
    · obtain ⟨hj2, e⟩ := hg j hj
      rw [e]; exact hc1 j hj2
    · obtain ⟨hj2, e⟩ := hg j hj
      rw [e]; exact hc2 j hj2
    · rintro e w' ⟨rfl, q, rfl⟩
      exact ⟨by simp, below_drewN (Below.refl _ _) q⟩
theorem closure_any (l : List Src) (v u : Value) (P Q : Nat → Prop) (w : World) (h : StM P w v l) (k : StM Q w u l) :
    Calls Tryd.prog 12 #[v, u] w fun e w' => e = .returned (.bool true) ∧ Below w.heap.size w w' := by
  have HE := Lib.hid (equal_st l v u P Q w h k)
  clear h k
  go_enter Tryd.func12, Tryd.ntmps12
  go_wp2_with fail
  refine HE.out.mono ?_
  rintro e w2 ⟨rfl, hb⟩
  go_wp2_with fail
  go_ret
  exact ⟨rfl, hb⟩
set_option maxRecDepth 100000 in
set_option maxHeartbeats 8000000 in
theorem equalf_any (rows : List (List Src)) (v u : Value) (P Q : Nat → Prop) (w : World) (h : RwM P w v rows) (k : RwM Q w u rows) :
    Calls Tryd.prog 11 #[v, u, .func (.func 12) #[] #[]] w fun e w' => e = .returned (.bool true) ∧ Below w.heap.size w w' := by
  obtain ⟨A1, c1, rfl⟩ := h.form
  obtain ⟨A2, c2, rfl⟩ := k.form
  have H1 := Lib.hid h
  have H2 := Lib.hid k
  have hcap : rows.length ≤ 9223372036854775807 := by
    obtain ⟨vs, _, h3, _⟩ := h
    have := h3.caps
    exact Nat.le_trans this.2.1 this.2.2
  clear h k
  generalize hn : rows.length = n at *
  have HN := Lib.hid hn
  clear hn
  have u0 : ((n : Int) != (n : Int)) = false := by simp
  go_enter Tryd.func11, Tryd.ntmps11
  go_wp2_with fail
  go_loopw [7, 8, 9, 17] (fun _ _ _ v17 wz => True ∧ ∃ i : Nat, i ≤ n ∧ v17 = .int .i64 (i : Int) ∧ Below w.heap.size w wz) (fun _ _ _ v17 _ => n - (intOf v17).toNat)
  case atStart => exact ⟨trivial, 0, by omega, rfl, Below.refl _ _⟩
  case round =>
    obtain ⟨-, i, hi, rfl, hb⟩ := hrel
    have HB := Lib.hid hb
    by_cases hlt : i < n
    · have t0 : decide ((i : Int) < (n : Int)) = true := by simp; omega
      have hi2 : i < rows.length := by rw [HN.out]; exact hlt
      obtain ⟨b1, o1, rfl, hl1, hc1⟩ := RwM.at_ H1.out (by omega)
      obtain ⟨b2, o2, rfl, hl2, hc2⟩ := RwM.at_ H2.out (by omega)
      obtain ⟨B1, d1, x0, hs1⟩ := hc1 i hi2
      obtain ⟨B2, d2, y0, hs2⟩ := hc2 i hi2
      have HC := Lib.hid (closure_any rows[i] _ _ _ _ wr (hs1.later hb) (hs2.later hb))
      replace x0 := (hb.cell (p := ⟨b1, o1 + i, none⟩) hl1).trans x0
      replace y0 := (hb.cell (p := ⟨b2, o2 + i, none⟩) hl2).trans y0
      have g1 := Nat.lt_of_lt_of_le hl1 hb.size
      have g2 := Nat.lt_of_lt_of_le hl2 hb.size
      clear hc1 hc2 hs1 hs2 hb
      generalize (rows[i]'hi2).length = m at *
      clear hi2
      go_wp2_with fail
      refine HC.out.mono ?_
      rintro e w3 ⟨rfl, hb3⟩
      have HB3 := Lib.hid (HB.out.trans (hb3.mono HB.out.size))
      clear hb3
      go_wp2_with fail
      go_roundw
      case rel => exact ⟨trivial, i + 1, by omega, by go_num, HB3.out⟩
      case measure => simp [intOf]; omega
    · have t0 : decide ((i : Int) < (n : Int)) = false := by simp; omega
      go_wp2_with fail
      go_ret
      exact ⟨rfl, HB.out⟩
set_option maxRecDepth 100000 in
set_option maxHeartbeats 8000000 in
theorem round_law (f : List Src) (rows : List (List Src)) (fv rv : Value) (P Q : Nat → Prop) (w : World) (hf : StM P w fv f) (hr : RwM Q w rv rows) (hfs : ∀ s ∈ f, s.length < 4294967281) (hrs : ∀ r ∈ rows, ∀ s ∈ r, s.length < 4294967281) (hM : Mx w) :
    Calls Tryd.prog 3 #[.agg #[fv, rv]] w fun e w' => e = .returned (.bool true) ∧ Below w.heap.size w w' := by
  have HPr := Lib.hid (fun W (hW : Below w.heap.size w W) => print_any f rows fv rv P Q W (hf.later hW) (hr.later hW) hfs hrs (hM.later hW))
  have HCk := Lib.hid (fun W (hW : Below w.heap.size w W) => check_any f rows fv rv P Q W (hf.later hW) (hr.later hW) hfs hrs (hM.later hW))
  have HTb := Lib.hid (fun W (hW : Below w.heap.size w W) => tables_any W (hM.later hW))
  have HBad := Lib.hid (print_bad (f := f) (rows := rows))
  have HPa : Hid ((printP f rows).1 = 0 → ∀ W (_ : Below w.heap.size w W), Calls Tryd.prog 9 #[.string (Bs (printP f rows).2)] W fun e w' => ∃ fv rv, e = .returned (.tuple #[.agg #[fv, rv], .int .i64 0]) ∧ StM (fun _ => True) w' fv f ∧ RwM (fun _ => True) w' rv rows ∧ Below W.heap.size W w') := fun h0 W hW => by
    have h : printP f rows = (0, (printP f rows).2) := Prod.ext h0 rfl
    obtain ⟨r1, r2, r3, _⟩ := round_trip h
    obtain ⟨k1, k2, k3⟩ := print_ok h
    exact parse_any f rows _ W r1 r2 r3 (by rw [k1, List.length_append] at r1; omega) k2 k3 h0 hfs hrs (hM.later hW)
  have HEq := Lib.hid (fun W (hW : Below w.heap.size w W) (u : Value) (h : StM (fun _ => True) W u f) => equal_st f fv u P _ W (hf.later hW) h)
  have HEf := Lib.hid (fun W (hW : Below w.heap.size w W) (u : Value) (h : RwM (fun _ => True) W u rows) => equalf_any rows rv u Q _ W (hr.later hW) h)
  have b1 := (Below.refl w.heap.size w).alloc (Nat.le_refl _) (.cells #[fv, rv] 25)
  have k1 := Blk.new w 25 #[fv, rv]
  have HB1 := Lib.hid b1
  have HK1 := Lib.hid k1
  clear hf hr hfs hrs hM b1 k1
  generalize printP f rows = PP at *
  obtain ⟨pe, ps⟩ := PP
  dsimp only at *
  go_enter Tryd.func3, Tryd.ntmps3
  go_wp2_with fail
  generalize w.alloc (.cells #[fv, rv] 25) = w1 at *
  refine (HTb.out _ HB1.out).mono ?_
  rintro e w2 ⟨rfl, hb2⟩
  have HB2 := Lib.hid (HB1.out.trans (hb2.mono HB1.out.size))
  have HK2 := Lib.hid (HK1.out.below hb2 HK1.out.lt)
  clear hb2 HB1 HK1 HTb
  have x0 : w2.cell? ⟨w.heap.size, 0, none⟩ = some fv := (HK2.out.cell 0).trans rfl
  have x1 : w2.cell? ⟨w.heap.size, 1, none⟩ = some rv := (HK2.out.cell 1).trans rfl
  have xl := HK2.out.lt
  have HP2 := Lib.hid (HPr.out _ HB2.out)
  go_wp2_with fail
  refine HP2.out.mono ?_
  rintro e w3 ⟨rfl, hb3⟩
  have HB3 := Lib.hid (HB2.out.trans (hb3.mono HB2.out.size))
  have HK3 := Lib.hid (HK2.out.below hb3 HK2.out.lt)
  clear hb3 HB2 HK2 HPr HP2 x0 x1 xl
  have y0 : w3.cell? ⟨w.heap.size, 0, none⟩ = some fv := (HK3.out.cell 0).trans rfl
  have y1 : w3.cell? ⟨w.heap.size, 1, none⟩ = some rv := (HK3.out.cell 1).trans rfl
  have yl := HK3.out.lt
  by_cases hpe : pe = 0
  case neg =>
    have u0 : (pe != 0) = true := by rw [bne_iff_ne]; exact hpe
    have hps : ps = [] := HBad.out hpe
    have HC2 := Lib.hid (HCk.out _ HB3.out)
    subst hps
    clear hpe
    go_wp2_with fail
    refine HC2.out.mono ?_
    rintro e w4 ⟨rfl, hb4⟩
    have HB4 := Lib.hid (HB3.out.trans (hb4.mono HB3.out.size))
    go_wp2_with fail
    go_ret
    exact ⟨by simp, HB4.out⟩
  have HP3 := Lib.hid (HPa.out hpe _ HB3.out)
  subst hpe
  clear HPa HBad HCk
  go_wp2_with fail
  refine HP3.out.mono ?_
  rintro e w4 ⟨gv, hv, rfl, hg, hh, hb4⟩
  obtain ⟨Ag, cg, rfl⟩ := SlM.form hg
  obtain ⟨Ah, ch, rfl⟩ := hh.form
  have HB4 := Lib.hid (HB3.out.trans (hb4.mono HB3.out.size))
  have HK4 := Lib.hid (HK3.out.below hb4 HK3.out.lt)
  clear hb4 y0 y1 yl HB3 HK3 HP3
  have b5 := (Below.refl w4.heap.size w4).alloc (Nat.le_refl _) (.cells #[.slice Ag f.length cg, .slice Ah rows.length ch] 25)
  have HB5 := Lib.hid (HB4.out.trans (b5.mono HB4.out.size))
  have HK5 := Lib.hid (HK4.out.below b5 HK4.out.lt)
  have HN5 := Lib.hid (Blk.new w4 25 #[.slice Ag f.length cg, .slice Ah rows.length ch])
  have HG5 := Lib.hid (hg.later b5)
  have HH5 := Lib.hid (hh.later b5)
  clear b5 hg hh
  go_upto_region 7 with (fail)
  generalize w4.alloc (.cells #[.slice Ag f.length cg, .slice Ah rows.length ch] 25) = w5 at *
  have z0 : w5.cell? ⟨w.heap.size, 0, none⟩ = some fv := (HK5.out.cell 0).trans rfl
  have z1 : w5.cell? ⟨w.heap.size, 1, none⟩ = some rv := (HK5.out.cell 1).trans rfl
  have zl := HK5.out.lt
  have n0 : w5.cell? ⟨w4.heap.size, 0, none⟩ = some (.slice Ag f.length cg) := (HN5.out.cell 0).trans rfl
  have n1 : w5.cell? ⟨w4.heap.size, 1, none⟩ = some (.slice Ah rows.length ch) := (HN5.out.cell 1).trans rfl
  have nl := HN5.out.lt
  have HE := Lib.hid (HEq.out _ HB5.out _ HG5.out)
  go_wp2_with fail
  refine HE.out.mono ?_
  rintro e w6 ⟨rfl, hb6⟩
  have HB6 := Lib.hid (HB5.out.trans (hb6.mono HB5.out.size))
  have HK6 := Lib.hid (HK5.out.below hb6 HK5.out.lt)
  have HN6 := Lib.hid (HN5.out.below hb6 HN5.out.lt)
  have HF := Lib.hid (HEf.out _ HB6.out _ (HH5.out.later hb6))
  clear hb6 z0 z1 zl n0 n1 nl
  have z1 : w6.cell? ⟨w.heap.size, 1, none⟩ = some rv := (HK6.out.cell 1).trans rfl
  have zl := HK6.out.lt
  have n1 : w6.cell? ⟨w4.heap.size, 1, none⟩ = some (.slice Ah rows.length ch) := (HN6.out.cell 1).trans rfl
  have nl := HN6.out.lt
  go_wp2_with fail
  refine HF.out.mono ?_
  rintro e w7 ⟨rfl, hb7⟩
  have HB7 := Lib.hid (HB6.out.trans (hb7.mono HB6.out.size))
  clear hb7
  go_wp2_with fail
  go_ret
  exact ⟨rfl, HB7.out⟩
end Go.Proofs.YtcbnelklilamgaaDoor
