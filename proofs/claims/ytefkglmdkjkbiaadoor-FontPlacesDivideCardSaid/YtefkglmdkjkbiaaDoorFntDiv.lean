/- The walk of FontPlacesDivide: the call returns true. -/
import Derived.Test.YtefkglmdkjkbiaaDoorFntFs
import Derived.Test.YtefkglmdkjkbiaaDoorFntBtw
import Derived.Test.YtefkglmdkjkbiaaDoorConcatInts
import Derived.IntWalk
namespace Go.Proofs.YtefkglmdkjkbiaaDoor
open Go.RowKit Fnt
def PlAll (F : Font) (codes : List Int) (W : World) (e : Ending) (w' : World) : Prop :=
  ∃ A n c x, e = .returned (.tuple #[.slice A n c, .int .i64 x, .int .i64 (checkE F)]) ∧ Below W.heap.size W w' ∧ (checkE F = 0 → n = codes.length ∧ x = wid F (gls F codes) codes.length ∧ w'.ownsRow W.heap.size 37 3 (.slice A n c) codes.length ((List.range codes.length).flatMap (plc F (gls F codes))))
theorem places_all (F : Font) (fv : Value) (codes : List Int) (cv : Value) (okc ok : Nat → Prop) (w : World) (hf : FntV w ok fv F) (hc : Sl w okc cv (ints codes)) (hT : Tab w) (h0 : 0 < w.heap.size) (hl : codes.length ≤ 1024) :
    Calls Tryd.prog 10 #[fv, cv] w (PlAll F codes w) := by
  by_cases hok : checkE F = 0
  · refine (places_ok F fv codes cv okc ok w hf hc hT h0 hok hl).mono ?_
    rintro e w' ⟨v, rfl, ho, hb⟩
    obtain ⟨A, c, rfl⟩ := own_form ho
    exact ⟨A, _, c, _, by rw [hok], hb, fun _ => ⟨rfl, rfl, ho⟩⟩
  · refine (places_bad F fv cv ok w hf hT h0 hok).mono ?_
    rintro e w' ⟨rfl, hb⟩
    exact ⟨none, 0, 0, 0, rfl, hb, fun h => absurd h hok⟩
theorem ints_take (zs : List Int) (k : Nat) : (ints zs).take k = ints (zs.take k) := by simp [ints, List.map_take]
theorem own_pl {F : Font} {gs : List Int} {base n m c : Nat} {A : Option Addr} {w : World} (h : w.ownsRow base 37 3 (.slice A m c) n ((List.range n).flatMap (plc F gs))) (hn : 0 < n) :
    m = n ∧ n ≤ c ∧ ∃ g, A = some ⟨g, 0, none⟩ ∧ base ≤ g ∧ g < w.heap.size ∧ ∀ i, i < n → w.cell? ⟨g, i * 3, none⟩ = some (.int .i64 (gs.getD i 0)) ∧ w.cell? ⟨g, i * 3 + 1, none⟩ = some (.int .i64 (pla F gs i)) := by
  have hs := SlM.of_own h
  have hc := hs.caps
  obtain ⟨b, off, hA, hb, hl, hcell⟩ := hs.addr hn
  rcases h.2 with ⟨_, h0⟩ | ⟨g, cap, cur, hv, hg, _⟩
  · omega
  · injection hv with hv1 hv2 hv3
    rw [hv1] at hA
    injection hA with hA
    injection hA with e1 e2
    subst e1 e2
    refine ⟨hc.1, by omega, g, hv1, hg, hl, fun i hi => ?_⟩
    have e : (List.range n).getD i 0 = i := by rw [List.getD_eq_getElem?_getD, List.getElem?_range hi]; rfl
    have k0 := hcell (i * 3 + 0) _ (by rw [flat_at (f := plc F gs) (m := 3) (fun _ => rfl) 0 _ i 0 (by simpa using hi) (by omega), e]; rfl)
    have k1 := hcell (i * 3 + 1) _ (by rw [flat_at (f := plc F gs) (m := 3) (fun _ => rfl) 0 _ i 1 (by simpa using hi) (by omega), e]; rfl)
    rw [Nat.zero_add] at k0 k1
    exact ⟨k0, k1⟩
set_option maxRecDepth 100000 in
set_option maxHeartbeats 8000000 in
theorem divide_any (F : Font) (fv : Value) (a b : List Int) (av bv : Value) (w : World) (hf : FntV w (fun _ => True) fv F) (ha : Sl w (fun _ => True) av (ints a)) (hb : Sl w (fun _ => True) bv (ints b)) (hT : Tab w) (h0 : 0 < w.heap.size) :
    Calls Tryd.prog 3 #[fv, av, bv] w fun e w' => e = .returned (.bool true) ∧ Below w.heap.size w w' := by
  have HTw : Hid (∀ ww, Below w.heap.size w ww → Tab ww) := fun ww hb i hi => (hb.cell (p := ⟨0, i, none⟩) h0).trans (hT i hi)
  have HFo := Lib.hid fun W (hb : Below w.heap.size w W) => fonts_any W (HTw.out W hb) (Nat.lt_of_lt_of_le h0 hb.size)
  have HPl := Lib.hid fun codes cv W (hb : Below w.heap.size w W) (hc : Sl W (fun _ => True) cv (ints codes)) (hl : codes.length ≤ 1024) => places_all F fv codes cv (fun _ => True) (fun _ => True) W (hf.later hb) hc (HTw.out W hb) (Nat.lt_of_lt_of_le h0 hb.size) hl
  obtain ⟨vg, vm, vk, rfl, hgs, hmp, hkn⟩ := hf
  obtain ⟨Ag, cg, rfl, hg1, hg2⟩ : ∃ A c, vg = .slice A F.gs.length c ∧ F.gs.length ≤ c ∧ c ≤ maxLen := by
    obtain ⟨vs, ⟨A, c, e, a, b, _⟩, _⟩ := hgs
    exact ⟨A, c, e, a, b⟩
  obtain ⟨Am, cm, rfl⟩ := SlM.form hmp
  obtain ⟨Ak, ck, rfl⟩ := SlM.form hkn
  have HKn := Lib.hid hkn
  have ckc := hkn.caps
  unfold maxLen at ckc
  obtain ⟨Aa, ca, ea⟩ := ha.form
  obtain ⟨Ab, cb, eb⟩ := hb.form
  rw [ints_length] at ea eb
  subst ea eb
  obtain ⟨ka, hka⟩ : ∃ ka, ka = min a.length 100 := ⟨_, rfl⟩
  obtain ⟨kb, hkb⟩ : ∃ kb, kb = min b.length 100 := ⟨_, rfl⟩
  have hac := ha.cap_le
  have hbc := hb.cap_le
  unfold maxLen at hac hbc
  have hSa := ha.take_ (k := ka) (by omega)
  have hSb := hb.take_ (k := kb) (by omega)
  rw [ints_take] at hSa hSb
  have hla : (a.take ka).length = ka := by rw [List.length_take]; omega
  have hlb : (b.take kb).length = kb := by rw [List.length_take]; omega
  have ema : min (a.length : Int) 100 = (ka : Int) := by omega
  have emb : min (b.length : Int) 100 = (kb : Int) := by omega
  have a1 : 0 ≤ (ka : Int) := by omega
  have a2 : (ka : Int) ≤ (ca : Int) := by omega
  have b1 : 0 ≤ (kb : Int) := by omega
  have b2 : (kb : Int) ≤ (cb : Int) := by omega
  have a3 : ka ≤ 100 := by omega
  have b3 : kb ≤ 100 := by omega
  have HSa := Lib.hid hSa
  have HSb := Lib.hid hSb
  have HLa := Lib.hid hla
  have HLb := Lib.hid hlb
  clear hka hkb hac hbc ha hb hSa hSb hla hlb hT
  generalize a.take ka = a' at *
  generalize b.take kb = b' at *
  generalize a.length = na at *
  generalize b.length = nb at *
  have hb1 := (Below.refl w.heap.size w).alloc (Nat.le_refl _) (.cells #[.int .i64 F.unit, .slice Ag F.gs.length cg, .slice Am F.map.length cm, .slice Ak F.kern.length ck] 26)
  have hk1 := Blk.new w 26 #[.int .i64 F.unit, .slice Ag F.gs.length cg, .slice Am F.map.length cm, .slice Ak F.kern.length ck]
  generalize hw1 : w.alloc (.cells #[.int .i64 F.unit, .slice Ag F.gs.length cg, .slice Am F.map.length cm, .slice Ak F.kern.length ck] 26) = w1 at *
  have HF1 := Lib.hid (HFo.out w1 hb1)
  have HB1 := Lib.hid hb1
  have HK1 := Lib.hid hk1
  have k0 := hk1.cell 0
  have k1 := hk1.cell 1
  have k2 := hk1.cell 2
  have k3 := hk1.cell 3
  simp only [List.getElem?_toArray, List.getElem?_cons_zero, List.getElem?_cons_succ] at k0 k1 k2 k3
  clear hgs hmp hkn hb1 hk1
  go_enter Tryd.func3, Tryd.ntmps3
  go_wp2_with fail
  refine HF1.out.mono ?_
  rintro e w2 ⟨rfl, hb2⟩
  have HB2 := Lib.hid hb2
  clear hb2
  go_wp2
  go_quiet (fail)
  clear ema emb
  have HB3 : Hid (Below w1.heap.size w1 (w2.drewN nq)) := below_drewN HB2.out nq
  generalize w2.drewN nq = w3 at *
  have HB3w := Lib.hid (HB1.out.trans (HB3.out.mono HB1.out.size))
  have q0 := (HB3.out.cell (p := ⟨w.heap.size, 0, none⟩) HK1.out.lt).trans k0
  have q1 := (HB3.out.cell (p := ⟨w.heap.size, 1, none⟩) HK1.out.lt).trans k1
  have q2 := (HB3.out.cell (p := ⟨w.heap.size, 2, none⟩) HK1.out.lt).trans k2
  have q3 := (HB3.out.cell (p := ⟨w.heap.size, 3, none⟩) HK1.out.lt).trans k3
  have HP3 := Lib.hid (HPl.out a' _ w3 HB3w.out (HSa.out.later HB3w.out) (by rw [HLa.out]; omega))
  go_wp2_with fail
  refine HP3.out.mono ?_
  rintro e w4 ⟨A4, n4, c4, x4, rfl, hb4, hp4⟩
  have HB4 := Lib.hid (HB3.out.trans (hb4.mono HB3.out.size))
  have HX4 := Lib.hid hp4
  clear hb4 hp4 q0 q1 q2 q3
  have HB4w := Lib.hid (HB1.out.trans (HB4.out.mono HB1.out.size))
  have q0 := (HB4.out.cell (p := ⟨w.heap.size, 0, none⟩) HK1.out.lt).trans k0
  have q1 := (HB4.out.cell (p := ⟨w.heap.size, 1, none⟩) HK1.out.lt).trans k1
  have q2 := (HB4.out.cell (p := ⟨w.heap.size, 2, none⟩) HK1.out.lt).trans k2
  have q3 := (HB4.out.cell (p := ⟨w.heap.size, 3, none⟩) HK1.out.lt).trans k3
  have HP4 := Lib.hid (HPl.out b' _ w4 HB4w.out (HSb.out.later HB4w.out) (by rw [HLb.out]; omega))
  go_wp2_with fail
  refine HP4.out.mono ?_
  rintro e w5 ⟨A5, n5, c5, x5, rfl, hb5, hp5⟩
  have HB45 := Lib.hid hb5
  have HB5 := Lib.hid (HB4.out.trans (hb5.mono HB4.out.size))
  have HX5 := Lib.hid hp5
  clear hb5 hp5 q0 q1 q2 q3
  go_wp2
  have HB5w := Lib.hid (HB1.out.trans (HB5.out.mono HB1.out.size))
  have q0 := (HB5.out.cell (p := ⟨w.heap.size, 0, none⟩) HK1.out.lt).trans k0
  have q1 := (HB5.out.cell (p := ⟨w.heap.size, 1, none⟩) HK1.out.lt).trans k1
  have q2 := (HB5.out.cell (p := ⟨w.heap.size, 2, none⟩) HK1.out.lt).trans k2
  have q3 := (HB5.out.cell (p := ⟨w.heap.size, 3, none⟩) HK1.out.lt).trans k3
  have hl5 : w.heap.size < w5.heap.size := Nat.lt_of_lt_of_le HK1.out.lt HB5.out.size
  have HCc : Hid (∀ W, Below w5.heap.size w5 W → Calls Tryd.prog 11 #[.slice (some ⟨W.heap.size, 0, none⟩) 2 2] (W.alloc (.cells #[.slice Aa ka ca, .slice Ab kb cb] 27)) fun e w' => ∃ A c, e = .returned (.slice A (a' ++ b').length c) ∧ Sl w' (fun _ => True) (.slice A (a' ++ b').length c) (ints (a' ++ b')) ∧ Below W.heap.size W w' ∧ Below (W.alloc (.cells #[.slice Aa ka ca, .slice Ab kb cb] 27)).heap.size (W.alloc (.cells #[.slice Aa ka ca, .slice Ab kb cb] 27)) w') := fun W hW => by
    have hbw := HB5w.out.trans (hW.mono HB5w.out.size)
    have hbx := (Below.refl W.heap.size W).alloc (Nat.le_refl _) (.cells #[.slice Aa ka ca, .slice Ab kb cb] 27)
    have hl2 : (a' ++ b').length ≤ 200 := by rw [List.length_append, HLa.out, HLb.out]; omega
    refine (concat_ints (.slice (some ⟨W.heap.size, 0, none⟩) 2 2) [.slice Aa ka ca, .slice Ab kb cb] [a', b'] _ (fun _ => True) (fun _ => True) (Sl.of_m (slM_blk (ok := fun _ => True) (Blk.new W 27 #[.slice Aa ka ca, .slice Ab kb cb]) rfl trivial (by decide)) rfl) rfl (fun i u hu => ?_) (by simp at hl2 ⊢; omega) (by simp)).mono ?_
    · match i, hu with
      | 0, hu => have := Option.some.inj hu; subst this; exact (HSa.out.later hbw).later hbx
      | 1, hu => have := Option.some.inj hu; subst this; exact (HSb.out.later hbw).later hbx
    · rintro e w' ⟨v', rfl, ho, hb'⟩
      rw [show [a', b'].flatten = a' ++ b' by simp] at ho
      obtain ⟨A, c, rfl⟩ := own_form ho
      exact ⟨A, c, rfl, (Sl.of_own ho).mono fun _ _ _ => trivial, hbx.trans (hb'.mono hbx.size), hb'⟩
  have HP6 : Hid (∀ W A c, Below w5.heap.size w5 W → Sl W (fun _ => True) (.slice A (a' ++ b').length c) (ints (a' ++ b')) → Calls Tryd.prog 10 #[.agg #[.int .i64 F.unit, .slice Ag F.gs.length cg, .slice Am F.map.length cm, .slice Ak F.kern.length ck], .slice A (a' ++ b').length c] W (PlAll F (a' ++ b') W)) := fun W A c hW hs =>
    HPl.out (a' ++ b') _ W (HB5w.out.trans (hW.mono HB5w.out.size)) hs (by rw [List.length_append, HLa.out, HLb.out]; omega)
  have HLab : Hid ((a' ++ b').length = ka + kb) := by unfold Hid; rw [List.length_append, HLa.out, HLb.out]
  generalize hlab : (a' ++ b').length = lab at HCc HP6 HLab
  clear hlab
  generalize F.unit = un at *
  generalize hng : F.gs.length = N at *
  generalize hnm : F.map.length = nm at *
  generalize hnk : F.kern.length = nk at *
  have HNk := Lib.hid hnk
  clear hng hnm hnk
  have hS0 : (fun w' => w'.cell? ⟨w.heap.size, 0, none⟩ = some (.int .i64 un) ∧ w'.cell? ⟨w.heap.size, 1, none⟩ = some (.slice Ag N cg) ∧ w'.cell? ⟨w.heap.size, 2, none⟩ = some (.slice Am nm cm) ∧ w'.cell? ⟨w.heap.size, 3, none⟩ = some (.slice Ak nk ck) ∧ Below w5.heap.size w5 w' : World → Prop) w5.drew := ⟨q0, q1, q2, q3, (Below.refl _ _).drew⟩
  have HK : Hid (∀ w' w'' : World, (w'.cell? ⟨w.heap.size, 0, none⟩ = some (.int .i64 un) ∧ w'.cell? ⟨w.heap.size, 1, none⟩ = some (.slice Ag N cg) ∧ w'.cell? ⟨w.heap.size, 2, none⟩ = some (.slice Am nm cm) ∧ w'.cell? ⟨w.heap.size, 3, none⟩ = some (.slice Ak nk ck) ∧ Below w5.heap.size w5 w') → Below w'.heap.size w' w'' → (w''.cell? ⟨w.heap.size, 0, none⟩ = some (.int .i64 un) ∧ w''.cell? ⟨w.heap.size, 1, none⟩ = some (.slice Ag N cg) ∧ w''.cell? ⟨w.heap.size, 2, none⟩ = some (.slice Am nm cm) ∧ w''.cell? ⟨w.heap.size, 3, none⟩ = some (.slice Ak nk ck) ∧ Below w5.heap.size w5 w'')) := by
    rintro w' w'' ⟨z0, z1, z2, z3, z5⟩ hb
    have l1 := Nat.lt_of_lt_of_le hl5 z5.size
    exact ⟨(hb.cell (p := ⟨w.heap.size, 0, none⟩) l1).trans z0, (hb.cell (p := ⟨w.heap.size, 1, none⟩) l1).trans z1, (hb.cell (p := ⟨w.heap.size, 2, none⟩) l1).trans z2, (hb.cell (p := ⟨w.heap.size, 3, none⟩) l1).trans z3, z5.trans (hb.mono z5.size)⟩
  have HKa : Hid (∀ (w' : World) (o : Obj), (w'.cell? ⟨w.heap.size, 0, none⟩ = some (.int .i64 un) ∧ w'.cell? ⟨w.heap.size, 1, none⟩ = some (.slice Ag N cg) ∧ w'.cell? ⟨w.heap.size, 2, none⟩ = some (.slice Am nm cm) ∧ w'.cell? ⟨w.heap.size, 3, none⟩ = some (.slice Ak nk ck) ∧ Below w5.heap.size w5 w') → (fun w' => w'.cell? ⟨w.heap.size, 0, none⟩ = some (.int .i64 un) ∧ w'.cell? ⟨w.heap.size, 1, none⟩ = some (.slice Ag N cg) ∧ w'.cell? ⟨w.heap.size, 2, none⟩ = some (.slice Am nm cm) ∧ w'.cell? ⟨w.heap.size, 3, none⟩ = some (.slice Ak nk ck) ∧ Below w5.heap.size w5 w' : World → Prop) (w'.alloc o)) := fun w' o h => HK.out w' _ h ((Below.refl _ _).alloc (Nat.le_refl _) o)
  dsimp only at hS0 HKa
  go_region_held3 (fun w' => w'.cell? ⟨w.heap.size, 0, none⟩ = some (.int .i64 un) ∧ w'.cell? ⟨w.heap.size, 1, none⟩ = some (.slice Ag N cg) ∧ w'.cell? ⟨w.heap.size, 2, none⟩ = some (.slice Am nm cm) ∧ w'.cell? ⟨w.heap.size, 3, none⟩ = some (.slice Ak nk ck) ∧ Below w5.heap.size w5 w')
    (first | exact hS0 | (exact HKa.out _ _ (by first | exact hS0 | assumption | exact ⟨by assumption, by assumption, by assumption, by assumption, by assumption⟩)) | (exact HK.out _ _ (by first | assumption | exact hS0 | (exact HKa.out _ _ (by first | exact hS0 | assumption)) | exact ⟨by assumption, by assumption, by assumption, by assumption, by assumption⟩) (by assumption)))
    (first | (go_at_call 11; refine (HCc.out _ (by first | exact hS0.2.2.2.2 | assumption)).mono ?_; rintro e w6 ⟨A6, c6, rfl, hs6, hb6, hb6x⟩) | (go_at_call 10; refine (HP6.out _ _ _ ((Below.refl w5.heap.size w5).drew.trans hb6) hs6).mono ?_; rintro e w7 ⟨A7, n7, c7, x7, rfl, hb7, hp7⟩))
  have HB7 : Hid (Below w1.heap.size w1 w7) := (HB5.out.trans ((((Below.refl w5.heap.size w5).drew.trans hb6).mono HB5.out.size))).trans (hb7.mono (Nat.le_trans HB5.out.size hb6.size))
  have HB7w := Lib.hid (HB1.out.trans (HB7.out.mono HB1.out.size))
  have HB57 : Hid (Below w5.heap.size w5 w7) := ((Below.refl w5.heap.size w5).drew.trans hb6).trans (hb7.mono hb6.size)
  have HX7 := Lib.hid hp7
  clear hb6 hb6x hb7 hp7 hs6 hS0 q0 q1 q2 q3 HK HKa HP6 HCc
  by_cases hok : checkE F = 0
  · obtain ⟨rfl, rfl, ho4⟩ := HX4.out hok
    obtain ⟨rfl, rfl, ho5⟩ := HX5.out hok
    obtain ⟨rfl, rfl, ho7⟩ := HX7.out hok
    have hfk := fok hok
    have hwa := wid_bd hfk (gls F a') (gls_bd hfk a') a'.length (by rw [gls_length]; omega)
    have hwb := wid_bd hfk (gls F b') (gls_bd hfk b') b'.length (by rw [gls_length]; omega)
    have ho4' := own_below (own_below ho4 HB45.out) HB57.out
    have ho5' := own_below ho5 HB57.out
    rw [hok]
    rw [HLa.out] at ho4' hwa
    rw [HLb.out] at ho5' hwb
    rw [HLa.out, HLb.out]
    have hgab : gls F (a' ++ b') = gls F a' ++ gls F b' := gls_append F a' b'
    have hlab : (a' ++ b').length = ka + kb := by rw [List.length_append, HLa.out, HLb.out]
    rw [hgab, hlab] at ho7 ⊢
    have hlga : (gls F a').length = ka := by rw [gls_length, HLa.out]
    have hlgb : (gls F b').length = kb := by rw [gls_length, HLb.out]
    have HBtw := Lib.hid (btw_last hfk)
    have HBb := Lib.hid (btw_bd hfk)
    have HApp := Lib.hid fun h => wid_append F (gls F a') (gls F b') h
    have HPap := Lib.hid fun h => pla_append F (gls F a') (gls F b') h
    rw [hlga] at HApp HPap
    clear hgab hlab hok ho4 ho5 HX4 HX5 HX7 hfk HP3 HP4 HPl
    generalize gls F a' = ga at *
    generalize gls F b' = gb at *
    have HGa := Lib.hid hlga
    have HGb := Lib.hid hlgb
    have HO4 := Lib.hid ho4'
    have HO5 := Lib.hid ho5'
    have HO7 := Lib.hid ho7
    clear ho4' ho5' ho7 hlga hlgb
    by_cases hz : ka = 0 ∨ kb = 0
    · have hsum : wid F (ga ++ gb) (ka + kb) = wid F ga ka + wid F gb kb := by
        rcases hz with rfl | rfl
        · have : ga = [] := List.eq_nil_of_length_eq_zero HGa.out
          subst this
          simp [wid]
        · have : gb = [] := List.eq_nil_of_length_eq_zero HGb.out
          subst this
          simp [wid]
      rw [hsum]
      clear hsum
      generalize wid F ga ka = xa at *
      generalize wid F gb kb = xb at *
      by_cases hz1 : ka = 0
      · subst hz1
        go_wp2
        go_ret
        exact ⟨endBool (by simp), HB7w.out⟩
      · have hz2 : kb = 0 := by omega
        subst hz2
        have hk0 : ((ka : Int) == 0) = false := by rw [beq_eq_false_iff_ne]; omega
        clear hz
        go_wp2
        go_ret
        exact ⟨endBool (by simp), HB7w.out⟩
    · obtain ⟨m, rfl⟩ : ∃ m, ka = m + 1 := ⟨ka - 1, by omega⟩
      obtain ⟨k, rfl⟩ : ∃ k, kb = k + 1 := ⟨kb - 1, by omega⟩
      obtain ⟨_, hc4, g4, rfl, _, hl4, hr4⟩ := own_pl HO4.out (by omega)
      obtain ⟨_, hc5, g5, rfl, _, hl5b, hr5⟩ := own_pl HO5.out (by omega)
      obtain ⟨_, hc7, g7, rfl, _, hl7, hr7⟩ := own_pl HO7.out (by omega)
      have c4 := (hr4 m (by omega)).1
      have c5 := (hr5 0 (by omega)).1
      have c7 := (hr7 (m + 1) (by omega)).2
      rw [Nat.zero_mul] at c5
      have hga : ga ≠ [] := fun e => by have := HGa.out; rw [e] at this; simp at this
      have happ := HApp.out hga (k + 1) (by omega)
      have hpap := HPap.out hga
      rw [Nat.add_sub_cancel] at happ hpap
      rw [hpap] at c7
      rw [happ]
      have hbt := HBb.out (ga.getD m 0) (gb.getD 0 0)
      have HLb2 : Hid (lastBy F (ga.getD m 0) (gb.getD 0 0) F.kern.length = btw F (ga.getD m 0) (gb.getD 0 0)) := HBtw.out _ _
      have HLi : Hid (∀ i, lastBy F (ga.getD m 0) (gb.getD 0 0) (i + 1) = if (kp F i).l = ga.getD m 0 ∧ (kp F i).r = gb.getD 0 0 then (kp F i).by_ else lastBy F (ga.getD m 0) (gb.getD 0 0) i) := fun i => rfl
      have HL0 : Hid (lastBy F (ga.getD m 0) (gb.getD 0 0) 0 = 0) := rfl
      generalize btw F (ga.getD m 0) (gb.getD 0 0) = bt at *
      generalize wid F ga (m + 1) = xa at *
      generalize wid F gb (k + 1) = xb at *
      generalize ga.getD m 0 = p1 at *
      generalize gb.getD 0 0 = p2 at *
      rw [HNk.out] at HLb2
      have hka0 : ((m : Int) + 1 == 0) = false := by rw [beq_eq_false_iff_ne]; omega
      have hkb0 : ((k : Int) + 1 == 0) = false := by rw [beq_eq_false_iff_ne]; omega
      have r3 := (HB7.out.cell (p := ⟨w.heap.size, 3, none⟩) HK1.out.lt).trans k3
      have C4 := Lib.hid c4
      have C5 := Lib.hid c5
      have C7 := Lib.hid c7
      clear hr4 hr5 hr7 happ hpap hga hz c4 c5 c7 HApp HPap HBtw HBb
      have hn1 : ((m + 1 : Nat) : Int) = (m : Int) + 1 := by omega
      have hn2 : ((k + 1 : Nat) : Int) = (k : Int) + 1 := by omega
      clear hn1 hn2
      go_wp2
      go_loopw [16, 89] (fun s16 vi wr => ∃ i : Nat, i ≤ nk ∧ vi = .int .i64 i ∧ s16 = .int .i64 (lastBy F p1 p2 i) ∧ Below w7.heap.size w7 wr) (fun _ i _ => nk - (intOf i).toNat)
      case atStart => exact ⟨0, by omega, rfl, by rw [HL0.out], Below.refl _ _⟩
      case round =>
        obtain ⟨i, hi, rfl, rfl, hbl⟩ := hrel
        have HBl := Lib.hid hbl
        have HBw := Lib.hid (HB7w.out.trans (hbl.mono HB7w.out.size))
        have d4 := (hbl.cell (p := ⟨g4, m * 3, none⟩) hl4).trans C4.out
        have d5 := (hbl.cell (p := ⟨g5, 0, none⟩) hl5b).trans C5.out
        have d7 := (hbl.cell (p := ⟨g7, (m + 1) * 3 + 1, none⟩) hl7).trans C7.out
        have e4 : g4 < wr.heap.size := Nat.lt_of_lt_of_le hl4 hbl.size
        have e5 : g5 < wr.heap.size := Nat.lt_of_lt_of_le hl5b hbl.size
        clear hbl
        by_cases hlt : i < nk
        · obtain ⟨bk, ok_, capk, ev, _, hbk, _, _, hck⟩ := kps_cells (v := .slice Ak nk ck) (by rw [HNk.out]; exact HKn.out) (by rw [HNk.out]; omega)
          injection ev with e1 e2 e3
          subst e1 e3
          clear e2
          obtain ⟨d0, d1, d2⟩ := hck i (by rw [HNk.out]; exact hlt)
          rw [show F.kern.getD i default = kp F i from rfl] at d0 d1 d2
          replace d0 := (HBw.out.cell (p := ⟨bk, ok_ + i * 3, none⟩) hbk).trans d0
          replace d1 := (HBw.out.cell (p := ⟨bk, ok_ + i * 3 + 1, none⟩) hbk).trans d1
          replace d2 := (HBw.out.cell (p := ⟨bk, ok_ + i * 3 + 2, none⟩) hbk).trans d2
          have hli := HLi.out i
          have lbk : bk < wr.heap.size := Nat.lt_of_lt_of_le hbk HBw.out.size
          generalize kp F i = y at *
          obtain ⟨kl, kr, kb⟩ := y
          dsimp only at d0 d1 d2 hli
          have x1 : (m : Int) + 1 - 1 = (m : Int) := by omega
          have x2 : IntKind.i64.wrap (m : Int) = (m : Int) := IntWalk.i64_in _ (by omega)
          have x3 : 0 ≤ (m : Int) := by omega
          have x4 : (m : Int) < (m : Int) + 1 := by omega
          have x5 : (0 : Int) < (k : Int) + 1 := by omega
          have x6 : 0 < k + 1 := by omega
          replace d4 := fun o => (cell_lt wr o ⟨g4, m * 3, none⟩ e4).trans d4
          replace d5 := fun o => (cell_lt wr o ⟨g5, 0, none⟩ e5).trans d5
          have HD4 := Lib.hid d4
          have HD5 := Lib.hid d5
          clear hck d4 d5 d7
          have d4 := HD4.out (.cells #[.int .i64 kl, .int .i64 kr, .int .i64 kb] 35)
          have d5 := HD5.out (.cells #[.int .i64 kl, .int .i64 kr, .int .i64 kb] 35)
          by_cases hc1 : kl = p1
          · have g1 : (kl == p1) = true := by rw [beq_iff_eq]; exact hc1
            by_cases hc2 : kr = p2
            · have g2 : (kr == p2) = true := by rw [beq_iff_eq]; exact hc2
              have HRs : Hid (lastBy F p1 p2 (i + 1) = kb) := by unfold Hid; rw [hli, if_pos ⟨hc1, hc2⟩]
              clear hc1 hc2 hli
              go_wp2
              go_quiet (fail)
              have HBq : Hid (∀ o, Below w7.heap.size w7 ((wr.alloc o).drewN nq)) := fun o => below_drewN (HBl.out.alloc HBl.out.size o) nq
              go_wp2
              go_roundw
              case rel => exact ⟨i + 1, by omega, by go_num, by rw [HRs.out], HBq.out _⟩
              case measure => simp [intOf]; omega
            · have g2 : (kr == p2) = false := by rw [beq_eq_false_iff_ne]; exact hc2
              have HRs : Hid (lastBy F p1 p2 (i + 1) = lastBy F p1 p2 i) := by unfold Hid; rw [hli, if_neg fun h => hc2 h.2]
              clear hc1 hc2 hli
              go_wp2
              go_quiet (fail)
              have HBq : Hid (∀ o, Below w7.heap.size w7 ((wr.alloc o).drewN nq)) := fun o => below_drewN (HBl.out.alloc HBl.out.size o) nq
              go_wp2
              go_roundw
              case rel => exact ⟨i + 1, by omega, by go_num, by rw [HRs.out], HBq.out _⟩
              case measure => simp [intOf]; omega
          · have g1 : (kl == p1) = false := by rw [beq_eq_false_iff_ne]; exact hc1
            have HRs : Hid (lastBy F p1 p2 (i + 1) = lastBy F p1 p2 i) := by unfold Hid; rw [hli, if_neg fun h => hc1 h.1]
            clear hc1 hli
            go_wp2
            go_quiet (fail)
            have HBq : Hid (∀ o, Below w7.heap.size w7 ((wr.alloc o).drewN nq)) := fun o => below_drewN (HBl.out.alloc HBl.out.size o) nq
            go_wp2
            go_roundw
            case rel => exact ⟨i + 1, by omega, by go_num, by rw [HRs.out], HBq.out _⟩
            case measure => simp [intOf]; omega
        · obtain rfl : i = nk := by omega
          have hL := HLb2.out
          rw [hL]
          clear hL
          go_wp2
          go_ret
          exact ⟨endBool (by simp), HBw.out⟩
  · generalize checkE F = e0 at *
    have hne : (e0 != 0) = true := by simpa using hok
    go_wp2
    go_ret
    exact ⟨endBool (by simp), HB7w.out⟩
end Go.Proofs.YtefkglmdkjkbiaaDoor
