/- The walks of the searches in a font: find and between. -/
import Derived.Test.YtefkglmdkjkbiaaDoorFntPairs
import Derived.Test.YtefkglmdkjkbiaaDoorFntPlace
import Derived.Test.YtefkglmdkjkbiaaDoorFntNst
import Derived.Deep.LoopGhost
import Derived.IntWalk
import Derived.Deep.RegionHeld3
namespace Go.Proofs.YtefkglmdkjkbiaaDoor
open Go.RowKit Fnt
theorem findc_any (lo hi g c : Int) (w : World) : Calls Tryd.prog 65 #[.agg #[.int .i64 lo, .int .i64 hi, .int .i64 g], .int .i64 c] w fun e w' => e = .returned (.int .i64 (cmpI lo c)) ∧ Below w.heap.size w w' := by
  have HC := Lib.hid (fun W => cmp_any lo c W)
  generalize cmpI lo c = r at *
  have HB0 : Hid (∀ o, Below w.heap.size w (w.alloc o)) := fun o => (Below.refl _ _).alloc (Nat.le_refl _) o
  go_enter Tryd.func65, Tryd.ntmps65
  go_wp2_with (go_at_call 66; refine (HC.out _).mono ?_; rintro e w' ⟨rfl, rfl⟩)
  go_ret
  exact ⟨rfl, HB0.out _⟩
theorem cmpI_lt {a b : Int} : cmpI a b < 0 ↔ a < b := by unfold cmpI; split <;> (try split) <;> omega
theorem cmpI_eq {a b : Int} : cmpI a b = 0 ↔ a = b := by unfold cmpI; split <;> (try split) <;> omega
theorem end2b {a : Int} {b b' : Bool} {a' : Int} (h : a = a') (h2 : b = b') : Ending.returned (.tuple #[.int .i64 a, .bool b]) = .returned (.tuple #[.int .i64 a', .bool b']) := by rw [h, h2]
set_option maxHeartbeats 4000000 in
theorem bsr_any (F : Font) (c : Int) (v : Value) (ok : Nat → Prop) (w : World) (h : SlM w ok v F.map.length (F.map.flatMap rgc)) (hn : F.map.length ≤ 1000) :
    Calls Tryd.prog 64 #[v, .int .i64 c, .func (.func 65) #[] #[]] w fun e w' => e = .returned (.tuple #[.int .i64 (fIdx F c : Nat), .bool (fHit F c)]) ∧ Below w.heap.size w w' := by
  have HH : Hid (fHit F c = (decide (fIdx F c < F.map.length) && decide ((rg F (fIdx F c)).lo = c))) := rfl
  have hI : Lib.bsGo (fun t => decide ((rg F t).lo < c)) F.map.length 0 F.map.length = fIdx F c := rfl
  generalize fHit F c = hit at *
  generalize fIdx F c = I at *
  have HI := Lib.hid hI
  have HS := Lib.hid h
  obtain ⟨A, cm, rfl⟩ := h.form
  have cmc := h.caps
  unfold maxLen at cmc
  generalize hnm : F.map.length = n at *
  have HN := Lib.hid hnm
  clear hnm hI h
  go_enter Tryd.func64, Tryd.ntmps64
  go_wp2
  go_loopg [9, 10] n (fun g s9 s10 wr => ∃ lo hi : Nat, s9 = .int .i64 lo ∧ s10 = .int .i64 hi ∧ lo ≤ hi ∧ hi ≤ n ∧ hi - lo ≤ g ∧ Below w.heap.size w wr ∧ Lib.bsGo (fun t => decide ((rg F t).lo < c)) g lo hi = I)
  case atStart => exact ⟨0, n, rfl, rfl, Nat.zero_le _, Nat.le_refl _, by omega, Below.refl _ _, HI.out⟩
  case round =>
    obtain ⟨lo, hi, rfl, rfl, hlh, hin, hg, hbl, hb⟩ := hrel
    have HBl := Lib.hid hbl
    have HBs := Lib.hid hb
    clear hb
    by_cases hlt : lo < hi
    · obtain ⟨b, off, cap, ev, _, hbb, _, _, hcell⟩ := rgs_cells (v := .slice A n cm) (by rw [HN.out]; exact HS.out) (by rw [HN.out]; omega)
      injection ev with e1 e2 e3
      subst e1 e3
      clear e2
      obtain ⟨d0, d1, d2⟩ := hcell ((lo + hi) / 2) (by rw [HN.out]; omega)
      rw [show F.map.getD ((lo + hi) / 2) default = rg F ((lo + hi) / 2) from rfl] at d0 d1 d2
      replace d0 := (hbl.cell (p := ⟨b, off + (lo + hi) / 2 * 3, none⟩) hbb).trans d0
      replace d1 := (hbl.cell (p := ⟨b, off + (lo + hi) / 2 * 3 + 1, none⟩) hbb).trans d1
      replace d2 := (hbl.cell (p := ⟨b, off + (lo + hi) / 2 * 3 + 2, none⟩) hbb).trans d2
      obtain ⟨g', rfl⟩ : ∃ g', gk = g' + 1 := ⟨gk - 1, by omega⟩
      have hbs := HBs.out
      simp only [Lib.bsGo, hlt, if_true] at hbs
      have HCm := fun W => Lib.hid (findc_any (rg F ((lo + hi) / 2)).lo (rg F ((lo + hi) / 2)).hi (rg F ((lo + hi) / 2)).g c W)
      clear hcell hbl HBs
      cases hx : decide ((rg F ((lo + hi) / 2)).lo < c) with
      | true =>
        simp only [hx, if_true] at hbs
        have hr : cmpI (rg F ((lo + hi) / 2)).lo c < 0 := cmpI_lt.2 (of_decide_eq_true hx)
        have HBs := Lib.hid hbs
        clear hbs hx
        generalize cmpI (rg F ((lo + hi) / 2)).lo c = r at *
        generalize rg F ((lo + hi) / 2) = x at *
        go_wp2_with (go_at_call 65; refine ((HCm _).out).mono ?_; rintro e w5 ⟨rfl, hb5⟩)
        go_roundg (hi - ((lo + hi) / 2 + 1))
        case measure => omega
        case rel => exact ⟨(lo + hi) / 2 + 1, hi, by rw [show ((lo : Int) + (hi : Int)) / 2 + 1 = (((lo + hi) / 2 + 1 : Nat) : Int) by omega], rfl, by omega, hin, Nat.le_refl _, HBl.out.trans (hb5.mono HBl.out.size), by rw [← HBs.out]; exact Lib.bsGo_fuel _ _ _ _ _ (Nat.le_refl _) (by omega)⟩
      | false =>
        simp only [hx, if_false, Bool.false_eq_true] at hbs
        have hr : ¬ cmpI (rg F ((lo + hi) / 2)).lo c < 0 := fun h => (of_decide_eq_false hx) (cmpI_lt.1 h)
        have HBs := Lib.hid hbs
        clear hbs hx
        generalize cmpI (rg F ((lo + hi) / 2)).lo c = r at *
        generalize rg F ((lo + hi) / 2) = x at *
        go_wp2_with (go_at_call 65; refine ((HCm _).out).mono ?_; rintro e w5 ⟨rfl, hb5⟩)
        go_roundg ((lo + hi) / 2 - lo)
        case measure => omega
        case rel => exact ⟨lo, (lo + hi) / 2, rfl, by rw [show ((lo : Int) + (hi : Int)) / 2 = (((lo + hi) / 2 : Nat) : Int) by omega], by omega, by omega, Nat.le_refl _, HBl.out.trans (hb5.mono HBl.out.size), by rw [← HBs.out]; exact Lib.bsGo_fuel _ _ _ _ _ (Nat.le_refl _) (by omega)⟩
    · obtain rfl : hi = lo := by omega
      have hIe : I = hi := by
        rw [← HBs.out]
        cases gk <;> simp [Lib.bsGo]
      subst hIe
      by_cases hIn : I < n
      · obtain ⟨b, off, cap, ev, _, hbb, _, _, hcell⟩ := rgs_cells (v := .slice A n cm) (by rw [HN.out]; exact HS.out) (by rw [HN.out]; omega)
        injection ev with e1 e2 e3
        subst e1 e3
        clear e2
        obtain ⟨d0, d1, d2⟩ := hcell I (by rw [HN.out]; omega)
        rw [show F.map.getD I default = rg F I from rfl] at d0 d1 d2
        replace d0 := (hbl.cell (p := ⟨b, off + I * 3, none⟩) hbb).trans d0
        replace d1 := (hbl.cell (p := ⟨b, off + I * 3 + 1, none⟩) hbb).trans d1
        replace d2 := (hbl.cell (p := ⟨b, off + I * 3 + 2, none⟩) hbb).trans d2
        have HCm := fun W => Lib.hid (findc_any (rg F I).lo (rg F I).hi (rg F I).g c W)
        clear hcell hbl HBs
        by_cases hx : (rg F I).lo = c
        · have HHt : Hid (hit = true) := by unfold Hid; rw [HH.out, decide_eq_true hIn, decide_eq_true hx]; rfl
          have hr0 : cmpI (rg F I).lo c = 0 := cmpI_eq.2 hx
          simp only [hr0] at HCm
          clear hx hr0 HH
          generalize rg F I = x at *
          go_wp2_with (go_at_call 65; refine ((HCm _).out).mono ?_; rintro e w5 ⟨rfl, hb5⟩)
          go_ret2
          exact ⟨end2b rfl HHt.out.symm, HBl.out.trans (hb5.mono HBl.out.size)⟩
        · have HHt : Hid (hit = false) := by unfold Hid; rw [HH.out, decide_eq_false hx]; simp
          have hr0 : (cmpI (rg F I).lo c == 0) = false := by
            rw [beq_eq_false_iff_ne]; exact fun h => hx (cmpI_eq.1 h)
          clear hx HH
          generalize cmpI (rg F I).lo c = r at *
          generalize rg F I = x at *
          go_wp2_with (go_at_call 65; refine ((HCm _).out).mono ?_; rintro e w5 ⟨rfl, hb5⟩)
          go_ret2
          exact ⟨end2b rfl HHt.out.symm, HBl.out.trans (hb5.mono HBl.out.size)⟩
      · have HHt : Hid (hit = false) := by unfold Hid; rw [HH.out, decide_eq_false hIn]; simp
        clear hbl HH
        go_wp2
        go_ret2
        exact ⟨end2b rfl HHt.out.symm, HBl.out⟩
set_option maxRecDepth 100000 in
set_option maxHeartbeats 4000000 in
theorem bsk_any (F : Font) (xl xr xb : Int) (v : Value) (ok : Nat → Prop) (w : World) (h : SlM w ok v F.kern.length (F.kern.flatMap kpc)) (hn : F.kern.length ≤ 1000) (I : Nat) (hit : Bool)
    (hI : Lib.bsGo (fun t => decide (pairC (kp F t) ⟨xl, xr, xb⟩ < 0)) F.kern.length 0 F.kern.length = I) (HH : Hid (hit = (decide (I < F.kern.length) && decide (pairC (kp F I) ⟨xl, xr, xb⟩ = 0)))) :
    Calls Tryd.prog 67 #[v, .agg #[.int .i64 xl, .int .i64 xr, .int .i64 xb], .func (.func 68) #[] #[]] w fun e w' => e = .returned (.tuple #[.int .i64 (I : Nat), .bool hit]) ∧ Below w.heap.size w w' := by
  have HI := Lib.hid hI
  have HS := Lib.hid h
  obtain ⟨A, cm, rfl⟩ := h.form
  have cmc := h.caps
  unfold maxLen at cmc
  generalize hnm : F.kern.length = n at *
  have HN := Lib.hid hnm
  have hb1 := (Below.refl w.heap.size w).alloc (Nat.le_refl _) (.cells #[.int .i64 xl, .int .i64 xr, .int .i64 xb] 35)
  have hk1 := Blk.new w 35 #[.int .i64 xl, .int .i64 xr, .int .i64 xb]
  generalize hw1 : w.alloc (.cells #[.int .i64 xl, .int .i64 xr, .int .i64 xb] 35) = w1 at *
  have HB1 := Lib.hid hb1
  have HK1 := Lib.hid hk1
  have k0 := hk1.cell 0
  have k1 := hk1.cell 1
  have k2 := hk1.cell 2
  simp only [List.getElem?_toArray, List.getElem?_cons_zero, List.getElem?_cons_succ] at k0 k1 k2
  clear hnm hI h hb1 hk1
  have HPr := Lib.hid fun (a : Kp) (W : World) => pairs_any a ⟨xl, xr, xb⟩ W
  unfold kpv at HPr
  go_enter Tryd.func67, Tryd.ntmps67
  go_wp2
  go_loopg [9, 10] n (fun g s9 s10 wr => ∃ lo hi : Nat, s9 = .int .i64 lo ∧ s10 = .int .i64 hi ∧ lo ≤ hi ∧ hi ≤ n ∧ hi - lo ≤ g ∧ Below w1.heap.size w1 wr ∧ Lib.bsGo (fun t => decide (pairC (kp F t) ⟨xl, xr, xb⟩ < 0)) g lo hi = I)
  case atStart => exact ⟨0, n, rfl, rfl, Nat.zero_le _, Nat.le_refl _, by omega, Below.refl _ _, HI.out⟩
  case round =>
    obtain ⟨lo, hi, rfl, rfl, hlh, hin, hg, hbl, hb⟩ := hrel
    have HBl := Lib.hid hbl
    have HBw : Hid (Below w.heap.size w wr) := HB1.out.trans (hbl.mono HB1.out.size)
    have HBs := Lib.hid hb
    have q0 := (hbl.cell (p := ⟨w.heap.size, 0, none⟩) HK1.out.lt).trans k0
    have q1 := (hbl.cell (p := ⟨w.heap.size, 1, none⟩) HK1.out.lt).trans k1
    have q2 := (hbl.cell (p := ⟨w.heap.size, 2, none⟩) HK1.out.lt).trans k2
    clear hb hbl
    by_cases hlt : lo < hi
    · obtain ⟨b, off, cap, ev, _, hbb, _, _, hcell⟩ := kps_cells (v := .slice A n cm) (by rw [HN.out]; exact HS.out) (by rw [HN.out]; omega)
      injection ev with e1 e2 e3
      subst e1 e3
      clear e2
      obtain ⟨d0, d1, d2⟩ := hcell ((lo + hi) / 2) (by rw [HN.out]; omega)
      rw [show F.kern.getD ((lo + hi) / 2) default = kp F ((lo + hi) / 2) from rfl] at d0 d1 d2
      replace d0 := (HBw.out.cell (p := ⟨b, off + (lo + hi) / 2 * 3, none⟩) hbb).trans d0
      replace d1 := (HBw.out.cell (p := ⟨b, off + (lo + hi) / 2 * 3 + 1, none⟩) hbb).trans d1
      replace d2 := (HBw.out.cell (p := ⟨b, off + (lo + hi) / 2 * 3 + 2, none⟩) hbb).trans d2
      obtain ⟨g', rfl⟩ : ∃ g', gk = g' + 1 := ⟨gk - 1, by omega⟩
      have hbs := HBs.out
      simp only [Lib.bsGo, hlt, if_true] at hbs
      have HCm := Lib.hid (HPr.out (kp F ((lo + hi) / 2)))
      clear hcell HBs
      have ei : ((lo : Int) + (hi : Int)) / 2 = (((lo + hi) / 2 : Nat) : Int) := by omega
      have hm1 : lo ≤ (lo + hi) / 2 := by omega
      have hm2 : (lo + hi) / 2 < hi := by omega
      have EI := Lib.hid ei
      clear ei
      go_wp2
      rw [EI.out]
      clear EI
      generalize (lo + hi) / 2 = m at *
      have em0 : 0 ≤ (m : Int) := by omega
      have em1 : (m : Int) < (n : Int) := by omega
      go_still_tail 6, (by kernel_rfl)
      change wpList _ _ _ _ _ wr.drew
      cases hx : decide (pairC (kp F m) ⟨xl, xr, xb⟩ < 0) with
      | true =>
        simp only [hx, if_true] at hbs
        have hr : pairC (kp F m) ⟨xl, xr, xb⟩ < 0 := of_decide_eq_true hx
        have HBs := Lib.hid hbs
        clear hbs hx
        generalize pairC (kp F m) ⟨xl, xr, xb⟩ = r at *
        generalize kp F m = y at *
        go_wp2_with (go_at_call 68; refine (HCm.out _).mono ?_; rintro e w5 ⟨rfl, hb5⟩)
        go_roundg (hi - (m + 1))
        case measure => omega
        case rel => exact ⟨m + 1, hi, by go_num, rfl, by omega, hin, Nat.le_refl _, HBl.out.trans (((Below.refl wr.heap.size wr).drew.trans hb5).mono HBl.out.size), by rw [← HBs.out]; exact Lib.bsGo_fuel _ _ _ _ _ (Nat.le_refl _) (by omega)⟩
      | false =>
        simp only [hx, if_false, Bool.false_eq_true] at hbs
        have hr : ¬ pairC (kp F m) ⟨xl, xr, xb⟩ < 0 := of_decide_eq_false hx
        have HBs := Lib.hid hbs
        clear hbs hx
        generalize pairC (kp F m) ⟨xl, xr, xb⟩ = r at *
        generalize kp F m = y at *
        go_wp2_with (go_at_call 68; refine (HCm.out _).mono ?_; rintro e w5 ⟨rfl, hb5⟩)
        go_roundg (m - lo)
        case measure => omega
        case rel => exact ⟨lo, m, rfl, rfl, by omega, by omega, Nat.le_refl _, HBl.out.trans (((Below.refl wr.heap.size wr).drew.trans hb5).mono HBl.out.size), by rw [← HBs.out]; exact Lib.bsGo_fuel _ _ _ _ _ (Nat.le_refl _) (by omega)⟩
    · obtain rfl : hi = lo := by omega
      have hIe : I = hi := by
        rw [← HBs.out]
        cases gk <;> simp [Lib.bsGo]
      subst hIe
      by_cases hIn : I < n
      · obtain ⟨b, off, cap, ev, _, hbb, _, _, hcell⟩ := kps_cells (v := .slice A n cm) (by rw [HN.out]; exact HS.out) (by rw [HN.out]; omega)
        injection ev with e1 e2 e3
        subst e1 e3
        clear e2
        obtain ⟨d0, d1, d2⟩ := hcell I (by rw [HN.out]; omega)
        rw [show F.kern.getD I default = kp F I from rfl] at d0 d1 d2
        replace d0 := (HBw.out.cell (p := ⟨b, off + I * 3, none⟩) hbb).trans d0
        replace d1 := (HBw.out.cell (p := ⟨b, off + I * 3 + 1, none⟩) hbb).trans d1
        replace d2 := (HBw.out.cell (p := ⟨b, off + I * 3 + 2, none⟩) hbb).trans d2
        have HCm := Lib.hid (HPr.out (kp F I))
        clear hcell HBs
        have em0 : 0 ≤ (I : Int) := by omega
        have em1 : (I : Int) < (n : Int) := by omega
        have gI : decide ((I : Int) < (n : Int)) = true := decide_eq_true em1
        have hbr : b < wr.heap.size := Nat.lt_of_lt_of_le hbb HBw.out.size
        have hwr : w.heap.size < wr.heap.size := Nat.lt_of_lt_of_le HK1.out.lt HBl.out.size
        have hx : hit = decide (pairC (kp F I) ⟨xl, xr, xb⟩ = 0) := by rw [HH.out, decide_eq_true hIn]; rfl
        have HX := Lib.hid hx
        clear hx HH
        generalize pairC (kp F I) ⟨xl, xr, xb⟩ = r at *
        generalize kp F I = y at *
        obtain ⟨yl, yr, yb⟩ := y
        dsimp only at d0 d1 d2 HCm
        have hS0 : (fun w' => w'.cell? ⟨b, off + I * 3, none⟩ = some (.int .i64 yl) ∧ w'.cell? ⟨b, off + I * 3 + 1, none⟩ = some (.int .i64 yr) ∧ w'.cell? ⟨b, off + I * 3 + 2, none⟩ = some (.int .i64 yb) ∧ w'.cell? ⟨w.heap.size, 0, none⟩ = some (.int .i64 xl) ∧ w'.cell? ⟨w.heap.size, 1, none⟩ = some (.int .i64 xr) ∧ w'.cell? ⟨w.heap.size, 2, none⟩ = some (.int .i64 xb) ∧ Below wr.heap.size wr w' : World → Prop) wr.drew := ⟨d0, d1, d2, q0, q1, q2, (Below.refl _ _).drew⟩
        have HK : Hid (∀ w' w'' : World, (w'.cell? ⟨b, off + I * 3, none⟩ = some (.int .i64 yl) ∧ w'.cell? ⟨b, off + I * 3 + 1, none⟩ = some (.int .i64 yr) ∧ w'.cell? ⟨b, off + I * 3 + 2, none⟩ = some (.int .i64 yb) ∧ w'.cell? ⟨w.heap.size, 0, none⟩ = some (.int .i64 xl) ∧ w'.cell? ⟨w.heap.size, 1, none⟩ = some (.int .i64 xr) ∧ w'.cell? ⟨w.heap.size, 2, none⟩ = some (.int .i64 xb) ∧ Below wr.heap.size wr w') → Below w'.heap.size w' w'' → (w''.cell? ⟨b, off + I * 3, none⟩ = some (.int .i64 yl) ∧ w''.cell? ⟨b, off + I * 3 + 1, none⟩ = some (.int .i64 yr) ∧ w''.cell? ⟨b, off + I * 3 + 2, none⟩ = some (.int .i64 yb) ∧ w''.cell? ⟨w.heap.size, 0, none⟩ = some (.int .i64 xl) ∧ w''.cell? ⟨w.heap.size, 1, none⟩ = some (.int .i64 xr) ∧ w''.cell? ⟨w.heap.size, 2, none⟩ = some (.int .i64 xb) ∧ Below wr.heap.size wr w'')) := by
          rintro w' w'' ⟨a0, a1, a2, a3, a4, a5, a6⟩ hb
          have l1 := Nat.lt_of_lt_of_le hbr a6.size
          have l2 := Nat.lt_of_lt_of_le hwr a6.size
          exact ⟨(hb.cell (p := ⟨b, off + I * 3, none⟩) l1).trans a0, (hb.cell (p := ⟨b, off + I * 3 + 1, none⟩) l1).trans a1, (hb.cell (p := ⟨b, off + I * 3 + 2, none⟩) l1).trans a2, (hb.cell (p := ⟨w.heap.size, 0, none⟩) l2).trans a3, (hb.cell (p := ⟨w.heap.size, 1, none⟩) l2).trans a4, (hb.cell (p := ⟨w.heap.size, 2, none⟩) l2).trans a5, a6.trans (hb.mono a6.size)⟩
        dsimp only at hS0
        go_wp2
        go_region_held3 (fun w' => w'.cell? ⟨b, off + I * 3, none⟩ = some (.int .i64 yl) ∧ w'.cell? ⟨b, off + I * 3 + 1, none⟩ = some (.int .i64 yr) ∧ w'.cell? ⟨b, off + I * 3 + 2, none⟩ = some (.int .i64 yb) ∧ w'.cell? ⟨w.heap.size, 0, none⟩ = some (.int .i64 xl) ∧ w'.cell? ⟨w.heap.size, 1, none⟩ = some (.int .i64 xr) ∧ w'.cell? ⟨w.heap.size, 2, none⟩ = some (.int .i64 xb) ∧ Below wr.heap.size wr w')
          (first | exact hS0 | (exact HK.out _ _ (by first | assumption | exact hS0 | exact ⟨by assumption, by assumption, by assumption, by assumption, by assumption, by assumption, by assumption⟩) (by assumption)))
          (first | (go_at_call 68; refine (HCm.out _).mono ?_; rintro e w5 ⟨rfl, hb5⟩))
        go_wp2
        go_ret2
        exact ⟨end2b rfl (by rw [HX.out]; by_cases h : r = 0 <;> simp [h]), HBw.out.trans (((Below.refl wr.heap.size wr).drew.trans hb5).mono HBw.out.size)⟩
      · have HHt : Hid (hit = false) := by unfold Hid; rw [HH.out, decide_eq_false hIn]; simp
        have gI : decide ((I : Int) < (n : Int)) = false := decide_eq_false (by omega)
        clear HH
        go_wp2
        go_quiet (fail)
        go_wp2
        go_ret2
        exact ⟨end2b rfl HHt.out.symm, below_drewN HBw.out _⟩
set_option maxRecDepth 100000 in
set_option maxHeartbeats 4000000 in
theorem between_any (F : Font) (a b : Int) (fv : Value) (ok : Nat → Prop) (w : World) (h : FntV w ok fv F) (hn : F.kern.length ≤ 1000) :
    Calls Tryd.prog 35 #[fv, .int .i64 a, .int .i64 b] w fun e w' => e = .returned (.int .i64 (btw F a b)) ∧ Below w.heap.size w w' := by
  obtain ⟨vg, vm, vk, rfl, hgs, hmp, hkn⟩ := h
  obtain ⟨Ag, cg, rfl, hg1, hg2⟩ : ∃ A c, vg = .slice A F.gs.length c ∧ F.gs.length ≤ c ∧ c ≤ maxLen := by
    obtain ⟨vs, ⟨A, c, e, a, b, _⟩, _⟩ := hgs
    exact ⟨A, c, e, a, b⟩
  obtain ⟨Am, cm, rfl⟩ := SlM.form hmp
  obtain ⟨Ak, ck, rfl⟩ := SlM.form hkn
  have hBt : btw F a b = if decide (bIdx F a b < F.kern.length) && decide (pairC (kp F (bIdx F a b)) ⟨a, b, 0⟩ = 0) then (kp F (bIdx F a b)).by_ else 0 := rfl
  obtain ⟨hit, hhit⟩ : ∃ hit, hit = (decide (bIdx F a b < F.kern.length) && decide (pairC (kp F (bIdx F a b)) ⟨a, b, 0⟩ = 0)) := ⟨_, rfl⟩
  rw [← hhit] at hBt
  have hb1 := (Below.refl w.heap.size w).alloc (Nat.le_refl _) (.cells #[.int .i64 F.unit, .slice Ag F.gs.length cg, .slice Am F.map.length cm, .slice Ak F.kern.length ck] 26)
  have hk1 := Blk.new w 26 #[.int .i64 F.unit, .slice Ag F.gs.length cg, .slice Am F.map.length cm, .slice Ak F.kern.length ck]
  generalize hw1 : w.alloc (.cells #[.int .i64 F.unit, .slice Ag F.gs.length cg, .slice Am F.map.length cm, .slice Ak F.kern.length ck] 26) = w1 at *
  have k3 := hk1.cell 3
  simp only [List.getElem?_toArray, List.getElem?_cons_zero, List.getElem?_cons_succ] at k3
  have hkn1 : SlM w1 ok (.slice Ak F.kern.length ck) F.kern.length (F.kern.flatMap kpc) := hkn.keep hb1.size fun b _ hb => hb1.block b hb
  have HBs := Lib.hid (bsk_any F a b 0 _ ok w1 hkn1 hn (bIdx F a b) hit rfl hhit)
  have HKn := Lib.hid hkn
  have HK1 := Lib.hid hk1
  have HB1 := Lib.hid hb1
  have hit1 : Hid (hit = true → bIdx F a b < F.kern.length) := fun h => by
    rw [hhit] at h
    simp only [Bool.and_eq_true, decide_eq_true_eq] at h; exact h.1
  generalize bIdx F a b = I at *
  have HBt := Lib.hid hBt
  have ckc := hkn.caps
  unfold maxLen at ckc
  clear hhit hBt hkn1 hkn hmp hgs hk1 hb1
  generalize hnk : F.kern.length = nk at *
  have HNk := Lib.hid hnk
  clear hnk
  cases hit with
  | false =>
    have HB0 : Hid (btw F a b = 0) := by unfold Hid; rw [HBt.out]; rfl
    go_enter Tryd.func35, Tryd.ntmps35
    go_wp2_with fail
    refine HBs.out.mono ?_
    rintro e w5 ⟨rfl, hb5⟩
    have HB5 : Hid (Below w.heap.size w w5) := HB1.out.trans (hb5.mono HB1.out.size)
    clear hb5
    go_wp2
    go_ret
    exact ⟨endInt HB0.out.symm, HB5.out⟩
  | true =>
    have HB0 : Hid (btw F a b = (kp F I).by_) := by unfold Hid; rw [HBt.out]; rfl
    have hIn := hit1.out rfl
    obtain ⟨bb, off, cap, ev, _, hbb, _, _, hcell⟩ := kps_cells (v := .slice Ak nk ck) (by rw [HNk.out]; exact HKn.out) (by rw [HNk.out]; omega)
    injection ev with e1 e2 e3
    subst e1 e3
    clear e2
    obtain ⟨_, _, d2⟩ := hcell I (by rw [HNk.out]; exact hIn)
    rw [show F.kern.getD I default = kp F I from rfl] at d2
    generalize (kp F I).by_ = by_ at *
    clear hcell
    go_enter Tryd.func35, Tryd.ntmps35
    go_wp2_with fail
    refine HBs.out.mono ?_
    rintro e w5 ⟨rfl, hb5⟩
    have q3 := (hb5.cell (p := ⟨w.heap.size, 3, none⟩) HK1.out.lt).trans k3
    have HB5 : Hid (Below w.heap.size w w5) := HB1.out.trans (hb5.mono HB1.out.size)
    replace d2 := (HB5.out.cell (p := ⟨bb, off + I * 3 + 2, none⟩) hbb).trans d2
    clear hb5 k3
    go_wp2
    go_ret
    exact ⟨endInt HB0.out.symm, HB5.out⟩
end Go.Proofs.YtefkglmdkjkbiaaDoor
