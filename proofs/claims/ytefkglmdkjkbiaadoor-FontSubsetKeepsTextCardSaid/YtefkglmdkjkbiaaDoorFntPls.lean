/- The walk of Places. -/
import Derived.Test.YtefkglmdkjkbiaaDoorFntChk
import Derived.Test.YtefkglmdkjkbiaaDoorFntFnd
import Derived.Test.YtefkglmdkjkbiaaDoorFntFok
import Derived.Deep.RegionHeld3
namespace Go.Proofs.YtefkglmdkjkbiaaDoor
open Go.RowKit Fnt
/-- The cells of glyph i of a line. -/
def plc (F : Font) (gs : List Int) (i : Nat) : List Value := [.int .i64 (gs.getD i 0), .int .i64 (pla F gs i), .int .i64 0]
def PlsOk (F : Font) (gs : List Int) (n : Nat) (w : World) (e : Ending) (w' : World) : Prop :=
  ∃ v, e = .returned (.tuple #[v, .int .i64 (wid F gs n), .int .i64 0]) ∧ w'.ownsRow w.heap.size 37 3 v n ((List.range n).flatMap (plc F gs)) ∧ Below w.heap.size w w'
set_option maxHeartbeats 4000000 in
theorem places_bad (F : Font) (fv cv : Value) (ok : Nat → Prop) (w : World) (hf : FntV w ok fv F) (hT : Tab w) (h0 : 0 < w.heap.size) (hbad : checkE F ≠ 0) :
    Calls Tryd.prog 10 #[fv, cv] w fun e w' => e = .returned (.tuple #[.slice none 0 0, .int .i64 0, .int .i64 (checkE F)]) ∧ Below w.heap.size w w' := by
  have HF := Lib.hid fun W hb => check_any F fv ok W (hf.later (w' := W) hb)
  obtain ⟨vg, vm, vk, rfl, hgs, hmp, hkn⟩ := hf
  obtain ⟨Ag, cg, rfl, hg1, hg2⟩ : ∃ A c, vg = .slice A F.gs.length c ∧ F.gs.length ≤ c ∧ c ≤ maxLen := by
    obtain ⟨vs, ⟨A, c, e, a, b, _⟩, _⟩ := hgs
    exact ⟨A, c, e, a, b⟩
  obtain ⟨Am, cm, rfl⟩ := SlM.form hmp
  obtain ⟨Ak, ck, rfl⟩ := SlM.form hkn
  have hb1 := (Below.refl w.heap.size w).alloc (Nat.le_refl _) (.cells #[.int .i64 F.unit, .slice Ag F.gs.length cg, .slice Am F.map.length cm, .slice Ak F.kern.length ck] 26)
  have HC := Lib.hid (HF.out _ hb1 (fun i hi => (hb1.cell (p := ⟨0, i, none⟩) h0).trans (hT i hi)) (Nat.lt_of_lt_of_le h0 hb1.size))
  have HB1 := Lib.hid hb1
  clear hgs hmp hkn HF hb1 hT
  generalize checkE F = e0 at *
  go_enter Tryd.func10, Tryd.ntmps10
  go_wp2_with fail
  refine HC.out.mono ?_
  rintro e w5 ⟨rfl, hb5⟩
  have HB5 : Hid (Below w.heap.size w w5) := HB1.out.trans (hb5.mono HB1.out.size)
  clear hb5
  go_wp2
  go_ret3
  exact ⟨rfl, HB5.out⟩
set_option maxHeartbeats 4000000 in
theorem places_large (F : Font) (fv : Value) (Ac : Option Addr) (n cc : Nat) (ok : Nat → Prop) (w : World) (hf : FntV w ok fv F) (hT : Tab w) (h0 : 0 < w.heap.size) (hok : checkE F = 0) (hl : 1024 < n) :
    Calls Tryd.prog 10 #[fv, .slice Ac n cc] w fun e w' => e = .returned (.tuple #[.slice none 0 0, .int .i64 0, .int .i64 2]) ∧ Below w.heap.size w w' := by
  have HF := Lib.hid fun W hb => check_any F fv ok W (hf.later (w' := W) hb)
  rw [hok] at HF
  obtain ⟨vg, vm, vk, rfl, hgs, hmp, hkn⟩ := hf
  obtain ⟨Ag, cg, rfl, hg1, hg2⟩ : ∃ A c, vg = .slice A F.gs.length c ∧ F.gs.length ≤ c ∧ c ≤ maxLen := by
    obtain ⟨vs, ⟨A, c, e, a, b, _⟩, _⟩ := hgs
    exact ⟨A, c, e, a, b⟩
  obtain ⟨Am, cm, rfl⟩ := SlM.form hmp
  obtain ⟨Ak, ck, rfl⟩ := SlM.form hkn
  have hb1 := (Below.refl w.heap.size w).alloc (Nat.le_refl _) (.cells #[.int .i64 F.unit, .slice Ag F.gs.length cg, .slice Am F.map.length cm, .slice Ak F.kern.length ck] 26)
  have HC := Lib.hid (HF.out _ hb1 (fun i hi => (hb1.cell (p := ⟨0, i, none⟩) h0).trans (hT i hi)) (Nat.lt_of_lt_of_le h0 hb1.size))
  have HB1 := Lib.hid hb1
  clear hgs hmp hkn HF hb1 hT hok
  go_enter Tryd.func10, Tryd.ntmps10
  go_wp2_with fail
  refine HC.out.mono ?_
  rintro e w5 ⟨rfl, hb5⟩
  have HB5 : Hid (Below w.heap.size w w5) := HB1.out.trans (hb5.mono HB1.out.size)
  clear hb5
  go_wp2
  go_ret3
  exact ⟨rfl, HB5.out⟩
theorem ePg : ElemK Tryd.prog 29 37 (.agg #[.int .i64 0, .int .i64 0, .int .i64 0]) 3 24 := ElemK.mk_ Tryd.underlying29 (by kernel_rfl) rfl
theorem range_flat (f : Nat → List Value) (i : Nat) : (List.range (i + 1)).flatMap f = (List.range i).flatMap f ++ f i := by
  rw [List.range_succ, List.flatMap_append]; simp
set_option maxRecDepth 100000 in
set_option maxHeartbeats 8000000 in
theorem places_ok (F : Font) (fv : Value) (codes : List Int) (cv : Value) (okc ok : Nat → Prop) (w : World) (hf : FntV w ok fv F) (hc : Sl w okc cv (ints codes)) (hT : Tab w) (h0 : 0 < w.heap.size) (hok : checkE F = 0) (hl : codes.length ≤ 1024) :
    Calls Tryd.prog 10 #[fv, cv] w (PlsOk F (gls F codes) codes.length w) := by
  have hfk := fok hok
  have HF := Lib.hid fun W hb => check_any F fv ok W (hf.later (w' := W) hb)
  rw [hok] at HF
  have HFd := Lib.hid fun c W hb => find_any F c fv ok W (hf.later (w' := W) hb) (by have := hfk.m1; omega) hfk.rg (by have := hfk.n1; omega)
  have HBt := Lib.hid fun a b W hb => between_any F a b fv ok W (hf.later (w' := W) hb) (by have := hfk.k1; omega)
  have HWb := Lib.hid (wid_bd hfk (gls F codes) (gls_bd hfk codes))
  have HBb := Lib.hid (btw_bd hfk)
  have HAd := Lib.hid fun g h0 h1 => adv_bd hfk (g := g) h0 h1
  have HFn := Lib.hid (find_bd hfk.rg hfk.n0)
  have HGt := Lib.hid fun j hj => gls_get F codes (j := j) hj
  have HGl : Hid ((gls F codes).length = codes.length) := by unfold Hid gls; simp
  have HCv := Lib.hid hc
  have hNp := hfk.n0
  have hN1 := hfk.n1
  obtain ⟨vg, vm, vk, rfl, hgs, hmp, hkn⟩ := hf
  obtain ⟨bg, og, cg, vs, rfl, hokg, hbg, hg1, hg2, hgc⟩ := Gls.cells hgs (by omega)
  obtain ⟨Am, cm, rfl⟩ := SlM.form hmp
  obtain ⟨Ak, ck, rfl⟩ := SlM.form hkn
  obtain ⟨Ac, cc, ev⟩ := hc.form
  rw [ints_length] at ev
  subst ev
  have hnl : codes.length < 9223372036854775807 := by omega
  have hnl2 : ¬ 1024 < codes.length := by omega
  generalize hgs2 : gls F codes = gs at *
  generalize hnn : codes.length = n at *
  have HNn := Lib.hid hnn
  have HGc : Hid (∀ q : Nat, q < F.gs.length → w.cell? ⟨bg, og + q * 3, none⟩ = some (.int .i64 (adv F (q : Int)))) := fun q hq => by
    have := (hgc q hq).1
    unfold adv; rw [Int.toNat_natCast]; exact this
  have hb1 := (Below.refl w.heap.size w).alloc (Nat.le_refl _) (.cells #[.int .i64 F.unit, .slice (some ⟨bg, og, none⟩) F.gs.length cg, .slice Am F.map.length cm, .slice Ak F.kern.length ck] 26)
  have hk1 := Blk.new w 26 #[.int .i64 F.unit, .slice (some ⟨bg, og, none⟩) F.gs.length cg, .slice Am F.map.length cm, .slice Ak F.kern.length ck]
  have HP : Hid (∀ v w', w'.ownsRow w.heap.size 37 3 v n ((List.range n).flatMap (plc F gs)) → Below w.heap.size w w' → PlsOk F gs n w (.returned (.tuple #[v, .int .i64 (wid F gs n), .int .i64 0])) w') := fun v w' h1 h2 => ⟨v, rfl, h1, h2⟩
  generalize PlsOk F gs n w = Q at *
  generalize hw1 : w.alloc (.cells #[.int .i64 F.unit, .slice (some ⟨bg, og, none⟩) F.gs.length cg, .slice Am F.map.length cm, .slice Ak F.kern.length ck] 26) = w1 at *
  have HC := Lib.hid (HF.out _ hb1 (fun i hi => (hb1.cell (p := ⟨0, i, none⟩) h0).trans (hT i hi)) (Nat.lt_of_lt_of_le h0 hb1.size))
  have HB1 := Lib.hid hb1
  have HK1 := Lib.hid hk1
  have k0 := hk1.cell 0
  have k1 := hk1.cell 1
  have k2 := hk1.cell 2
  have k3 := hk1.cell 3
  simp only [List.getElem?_toArray, List.getElem?_cons_zero, List.getElem?_cons_succ] at k0 k1 k2 k3
  clear hgs hmp hkn HF hb1 hT hok hk1 hgc hc hgs2 hfk hnn
  generalize F.unit = un at *
  generalize F.gs.length = N at *
  generalize F.map.length = nm at *
  generalize F.kern.length = nk at *
  go_enter Tryd.func10, Tryd.ntmps10
  go_wp2_with fail
  refine HC.out.mono ?_
  rintro e w5 ⟨rfl, hb5⟩
  have HB5 := Lib.hid hb5
  clear hb5
  go_wp2
  go_loopw [8, 9, 23] (fun s8 s9 vi wr => ∃ i : Nat, i ≤ n ∧ vi = .int .i64 i ∧ s9 = .int .i64 (wid F gs i) ∧ wr.ownsRow w1.heap.size 37 3 s8 i ((List.range i).flatMap (plc F gs)) ∧ Below w1.heap.size w1 wr) (fun _ _ i _ => n - (intOf i).toNat)
  case atStart => exact ⟨0, by omega, rfl, rfl, World.ownsRow_nil _ _ _ _, HB5.out⟩
  case round =>
    obtain ⟨i, hi, rfl, rfl, hown, hbl⟩ := hrel
    obtain ⟨v, rfl⟩ : ∃ v, v = u8 := ⟨_, rfl⟩
    have HOw := Lib.hid hown
    have HBl := Lib.hid hbl
    have HBw : Hid (Below w.heap.size w wr) := HB1.out.trans (hbl.mono HB1.out.size)
    have HCl := fun o => (hbl.cell (p := ⟨w.heap.size, o, none⟩) HK1.out.lt)
    have q0 := (HCl 0).trans k0
    have q1 := (HCl 1).trans k1
    have q2 := (HCl 2).trans k2
    have q3 := (HCl 3).trans k3
    clear HCl hown hbl
    by_cases hlt : i < n
    · obtain ⟨bc, oc, hA, hbc, hca⟩ := HCv.out.plainA (by rw [ints_length, HNn.out]; omega)
      subst hA
      have d0 := hca i _ (ints_get (by rw [HNn.out]; exact hlt))
      replace d0 := (HBw.out.cell (p := ⟨bc, oc + i, none⟩) hbc).trans d0
      have HGi := Lib.hid (HGt.out i (by first | exact hlt | (rw [HNn.out]; exact hlt)))
      have hfb := HFn.out (codes.getD i 0)
      have HFc := Lib.hid (HFd.out (codes.getD i 0) wr HBw.out)
      rw [← HGi.out] at hfb HFc
      generalize codes.getD i 0 = cd at *
      obtain ⟨q, hq⟩ : ∃ q : Nat, gs.getD i 0 = (q : Int) := ⟨_, (Int.toNat_of_nonneg hfb.1).symm⟩
      rw [hq] at HFc hfb
      have hqN : q < N := by omega
      have ha := HGc.out q hqN
      have hab := HAd.out (q : Int) (by omega) hfb.2
      have HQ := Lib.hid hq
      have hwb := HWb.out i (by rw [HGl.out]; omega)
      have HW1 : Hid (wid F gs (i + 1) = pla F gs i + adv F (q : Int)) := by unfold Hid; rw [wid_succ, hq]
      generalize adv F (q : Int) = av at *
      have HGq := Lib.hid ha
      clear hca hq hfb
      go_wp2_with fail
      refine HFc.out.mono ?_
      rintro e w6 ⟨rfl, hb6⟩
      have HB6 := Lib.hid (HBl.out.trans (hb6.mono HBl.out.size))
      have HB6w := Lib.hid (HBw.out.trans (hb6.mono HBw.out.size))
      have HO6 := Lib.hid (own_below HOw.out hb6)
      have hl6 := Nat.lt_of_lt_of_le HK1.out.lt HB6.out.size
      have HCl := fun o => (HB6.out.cell (p := ⟨w.heap.size, o, none⟩) HK1.out.lt)
      have q0 := (HCl 0).trans k0
      have q1 := (HCl 1).trans k1
      have q2 := (HCl 2).trans k2
      have q3 := (HCl 3).trans k3
      replace ha := (HB6w.out.cell (p := ⟨bg, og + q * 3, none⟩) hbg).trans ha
      clear HCl hb6 d0
      by_cases hi0 : 0 < i
      · obtain ⟨j, rfl⟩ : ∃ j, i = j + 1 := ⟨i - 1, by omega⟩
        obtain ⟨g8, cap8, rfl, hb8, hh8⟩ : ∃ g cap, v = .slice (some ⟨g, 0, none⟩) (j + 1) cap ∧ w1.heap.size ≤ g ∧ g < w6.heap.size := by
          have hlt8 := own_lt HO6.out
          rcases HO6.out.2 with ⟨_, h⟩ | ⟨g, cap, cur, hv, hg, _⟩
          · omega
          · exact ⟨g, cap, hv, hg, (hlt8 g (by rw [hv]; rfl)).2⟩
        have c8 : w6.cell? ⟨g8, j * 3, none⟩ = some (.int .i64 (gs.getD j 0)) := by
          obtain ⟨b', o', e', _, _, hc'⟩ := (SlM.of_own HO6.out).addr (by omega)
          injection e' with e'
          injection e' with e1 e2
          subst e1 e2
          have := hc' (j * 3 + 0) (.int .i64 (gs.getD j 0)) (by rw [flat_at (f := plc F gs) (m := 3) (fun _ => rfl) 0 _ j 0 (by simp) (by omega), show (List.range (j + 1)).getD j 0 = j by rw [List.getD_eq_getElem?_getD, List.getElem?_range (by omega)]; rfl]; rfl)
          rw [Nat.zero_add] at this; exact this
        have hpl : pla F gs (j + 1) = wid F gs (j + 1) + btw F (gs.getD j 0) (q : Int) := by
          unfold pla; rw [if_neg (by omega), HQ.out, Nat.add_sub_cancel]
        have hbb := HBb.out (gs.getD j 0) (q : Int)
        have HBx := Lib.hid (HBt.out (gs.getD j 0) (q : Int))
        generalize gs.getD j 0 = p at *
        generalize btw F p (q : Int) = bt at *
        have HPl := Lib.hid hpl
        have hpb0 : -10000000 ≤ wid F gs (j + 1) ∧ wid F gs (j + 1) ≤ 10000000 := by omega
        have HPb : Hid (-20000000 ≤ pla F gs (j + 1) ∧ pla F gs (j + 1) ≤ 20000000) := by unfold Hid; rw [hpl]; omega
        generalize wid F gs (j + 1) = wj at *
        clear hpl hwb
        have hS0 : (fun w' => w'.cell? ⟨w.heap.size, 0, none⟩ = some (.int .i64 un) ∧ w'.cell? ⟨w.heap.size, 1, none⟩ = some (.slice (some ⟨bg, og, none⟩) N cg) ∧ w'.cell? ⟨w.heap.size, 2, none⟩ = some (.slice Am nm cm) ∧ w'.cell? ⟨w.heap.size, 3, none⟩ = some (.slice Ak nk ck) ∧ w'.cell? ⟨g8, j * 3, none⟩ = some (.int .i64 p) ∧ Below w6.heap.size w6 w' : World → Prop) w6.drew := ⟨q0, q1, q2, q3, c8, (Below.refl _ _).drew⟩
        have HK : Hid (∀ w' w'' : World, (w'.cell? ⟨w.heap.size, 0, none⟩ = some (.int .i64 un) ∧ w'.cell? ⟨w.heap.size, 1, none⟩ = some (.slice (some ⟨bg, og, none⟩) N cg) ∧ w'.cell? ⟨w.heap.size, 2, none⟩ = some (.slice Am nm cm) ∧ w'.cell? ⟨w.heap.size, 3, none⟩ = some (.slice Ak nk ck) ∧ w'.cell? ⟨g8, j * 3, none⟩ = some (.int .i64 p) ∧ Below w6.heap.size w6 w') → Below w'.heap.size w' w'' → (w''.cell? ⟨w.heap.size, 0, none⟩ = some (.int .i64 un) ∧ w''.cell? ⟨w.heap.size, 1, none⟩ = some (.slice (some ⟨bg, og, none⟩) N cg) ∧ w''.cell? ⟨w.heap.size, 2, none⟩ = some (.slice Am nm cm) ∧ w''.cell? ⟨w.heap.size, 3, none⟩ = some (.slice Ak nk ck) ∧ w''.cell? ⟨g8, j * 3, none⟩ = some (.int .i64 p) ∧ Below w6.heap.size w6 w'')) := by
          rintro w' w'' ⟨a0, a1, a2, a3, a4, a5⟩ hb
          have l1 := Nat.lt_of_lt_of_le hl6 a5.size
          have l2 := Nat.lt_of_lt_of_le hh8 a5.size
          exact ⟨(hb.cell (p := ⟨w.heap.size, 0, none⟩) l1).trans a0, (hb.cell (p := ⟨w.heap.size, 1, none⟩) l1).trans a1, (hb.cell (p := ⟨w.heap.size, 2, none⟩) l1).trans a2, (hb.cell (p := ⟨w.heap.size, 3, none⟩) l1).trans a3, (hb.cell (p := ⟨g8, j * 3, none⟩) l2).trans a4, a5.trans (hb.mono a5.size)⟩
        dsimp only at hS0
        have HBd := Lib.hid (fun W (h : Below w6.heap.size w6 W) => HBx.out W (HB6w.out.trans (h.mono HB6w.out.size)))
        have ew : IntKind.i64.wrap (wj + bt) = wj + bt := IntWalk.i64_in _ (by omega)
        have ej : (j : Int) + 1 - 1 = (j : Int) := by omega
        have ej2 : IntKind.i64.wrap (j : Int) = (j : Int) := IntWalk.i64_in _ (by omega)
        have ej0 : 0 ≤ (j : Int) := by omega
        have ej1 : (j : Int) < (j : Int) + 1 := by omega
        go_wp2
        go_region_held3 (fun w' => w'.cell? ⟨w.heap.size, 0, none⟩ = some (.int .i64 un) ∧ w'.cell? ⟨w.heap.size, 1, none⟩ = some (.slice (some ⟨bg, og, none⟩) N cg) ∧ w'.cell? ⟨w.heap.size, 2, none⟩ = some (.slice Am nm cm) ∧ w'.cell? ⟨w.heap.size, 3, none⟩ = some (.slice Ak nk ck) ∧ w'.cell? ⟨g8, j * 3, none⟩ = some (.int .i64 p) ∧ Below w6.heap.size w6 w')
          (first | exact hS0 | (exact HK.out _ _ (by first | assumption | exact hS0 | exact ⟨by assumption, by assumption, by assumption, by assumption, by assumption, by assumption⟩) (by assumption)))
          (first | (go_at_call 35; refine (HBd.out _ (by first | exact hS0.2.2.2.2.2 | assumption)).mono ?_; rintro e w7 ⟨rfl, hb7⟩))
        have HB7 : Hid (Below w6.heap.size w6 w7) := (Below.refl w6.heap.size w6).drew.trans hb7
        rw [← HPl.out]
        have HPx : Hid (pla F gs (j + 1) = pla F gs (j + 1)) := rfl
        have hpb := HPb.out
        clear hb7 hS0 ew c8 q0 q1 q2 q3 ha hpb0 hbb
        obtain ⟨px, hpx⟩ : ∃ px, px = pla F gs (j + 1) := ⟨_, rfl⟩
        rw [← hpx] at hpb ⊢
        replace HPx := Lib.hid hpx.symm
        rw [← hpx] at HW1
        clear hpx
        have HO7 := Lib.hid (own_below HO6.out HB7.out)
        have hb7z := HB7.out.size
        have hb6z := HB6.out.size
        go_wp2_with (at_builtin; refine wpList_pushk ePg rfl (.tmp 44) (.tmp 48) rfl w1.heap.size (.slice (some ⟨g8, 0, none⟩) (j + 1) cap8) (j + 1) _ rfl (HO7.out.alloc _) ⟨w7.heap.size, 0, none⟩ 1 [.int .i64 (q : Int), .int .i64 px, .int .i64 0] rfl rfl (news_new _ _ _ _ rfl) (by simp [Value.oneCell']) (by omega) (by omega) (by omega) (by simp; omega) ?_; intro v' w8 hown8 hgr8 hk8; have HO8 := Lib.hid hown8; have hb8 : Below w1.heap.size w1 w8 := (((HB6.out.trans (HB7.out.mono hb6z)).alloc (by omega) _).grown hgr8 (by simp; omega) (fun k hk => (own_lt HO7.out k hk).1)); have HB8 := Lib.hid hb8; have r1 := (hb8.cell (p := ⟨w.heap.size, 1, none⟩) HK1.out.lt).trans k1; have ra := ((HB1.out.trans (hb8.mono HB1.out.size)).cell (p := ⟨bg, og + q * 3, none⟩) hbg).trans HGq.out; have rl : w.heap.size < w8.heap.size := Nat.lt_of_lt_of_le HK1.out.lt hb8.size; clear hown8 hgr8 hk8 hb8)
        go_roundw
        case rel => exact ⟨j + 1 + 1, by omega, by go_num, by rw [HW1.out], by rw [range_flat]; have := HO8.out; simpa only [plc, HQ.out, HPx.out] using this, HB8.out⟩
        case measure => simp [intOf]; omega
      · obtain rfl : i = 0 := by omega
        obtain ⟨A0, c0, rfl⟩ := own_form HO6.out
        have hw0 : wid F gs 0 = pla F gs 0 := by unfold pla; simp
        rw [hw0]
        have hpb : -20000000 ≤ pla F gs 0 ∧ pla F gs 0 ≤ 20000000 := by rw [← hw0]; simp [wid]
        rw [show ((0 : Nat) : Int) = 0 from rfl]
        obtain ⟨px, hpx⟩ : ∃ px, px = pla F gs 0 := ⟨_, rfl⟩
        rw [← hpx] at hpb ⊢
        have HPx := Lib.hid hpx.symm
        rw [← hpx] at HW1
        have HB7 : Hid (Below w6.heap.size w6 w6) := Below.refl _ _
        obtain ⟨w7, rfl⟩ : ∃ x, x = w6 := ⟨_, rfl⟩
        clear hpx hw0 hwb
        have HO7 := Lib.hid (own_below HO6.out HB7.out)
        have hb7z := HB7.out.size
        have hb6z := HB6.out.size
        go_wp2_with (at_builtin; refine wpList_pushk ePg rfl (.tmp 44) (.tmp 48) rfl w1.heap.size (.slice A0 0 c0) (0) _ rfl (HO7.out.alloc _) ⟨w7.heap.size, 0, none⟩ 1 [.int .i64 (q : Int), .int .i64 px, .int .i64 0] rfl rfl (news_new _ _ _ _ rfl) (by simp [Value.oneCell']) (by omega) (by omega) (by omega) (by simp; omega) ?_; intro v' w8 hown8 hgr8 hk8; have HO8 := Lib.hid hown8; have hb8 : Below w1.heap.size w1 w8 := (((HB6.out).alloc (by omega) _).grown hgr8 (by simp; omega) (fun k hk => (own_lt HO7.out k hk).1)); have HB8 := Lib.hid hb8; have r1 := (hb8.cell (p := ⟨w.heap.size, 1, none⟩) HK1.out.lt).trans k1; have ra := ((HB1.out.trans (hb8.mono HB1.out.size)).cell (p := ⟨bg, og + q * 3, none⟩) hbg).trans HGq.out; have rl : w.heap.size < w8.heap.size := Nat.lt_of_lt_of_le HK1.out.lt hb8.size; clear hown8 hgr8 hk8 hb8)
        go_roundw
        case rel => exact ⟨0 + 1, by omega, by go_num, by rw [HW1.out], by rw [range_flat]; have := HO8.out; simpa only [plc, HQ.out, HPx.out] using this, HB8.out⟩
        case measure => simp [intOf]; omega
    · obtain rfl : i = n := by omega
      obtain ⟨A0, c0, rfl⟩ := own_form HOw.out
      have HPp := Lib.hid (HP.out _ wr (own_base HOw.out (by have := HB1.out.size; omega)) HBw.out)
      generalize wid F gs i = wx at *
      go_wp2
      go_ret3
      exact HPp.out
end Go.Proofs.YtefkglmdkjkbiaaDoor
