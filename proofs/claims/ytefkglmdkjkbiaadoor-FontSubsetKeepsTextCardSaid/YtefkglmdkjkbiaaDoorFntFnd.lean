/- The walk of find: the glyph of a code. -/
import Derived.Test.YtefkglmdkjkbiaaDoorFntFind
import Derived.Test.YtefkglmdkjkbiaaDoorFntRange
namespace Go.Proofs.YtefkglmdkjkbiaaDoor
open Go.RowKit Fnt
set_option maxRecDepth 100000 in
set_option maxHeartbeats 4000000 in
theorem find_any (F : Font) (c : Int) (fv : Value) (ok : Nat → Prop) (w : World) (h : FntV w ok fv F) (hn : F.map.length ≤ 1000) (hM : ∀ i, i < F.map.length → RgOk (rg F i) F.gs.length) (hN : F.gs.length ≤ 1000) :
    Calls Tryd.prog 34 #[fv, .int .i64 c] w fun e w' => e = .returned (.int .i64 (find F c)) ∧ Below w.heap.size w w' := by
  obtain ⟨vg, vm, vk, rfl, hgs, hmp, hkn⟩ := h
  obtain ⟨Ag, cg, rfl, hg1, hg2⟩ : ∃ A c, vg = .slice A F.gs.length c ∧ F.gs.length ≤ c ∧ c ≤ maxLen := by
    obtain ⟨vs, ⟨A, c, e, a, b, _⟩, _⟩ := hgs
    exact ⟨A, c, e, a, b⟩
  obtain ⟨Am, cm, rfl⟩ := SlM.form hmp
  obtain ⟨Ak, ck, rfl⟩ := SlM.form hkn
  have hFd : find F c = if fRange F c = 0 then 0 else if (rg F (fRange F c - 1)).hi < c then 0 else (rg F (fRange F c - 1)).g + c - (rg F (fRange F c - 1)).lo := rfl
  have hlo := fRange_lo F c
  have hle := fRange_le F c
  have hFr : fRange F c = if fHit F c then fIdx F c + 1 else fIdx F c := rfl
  have hb1 := (Below.refl w.heap.size w).alloc (Nat.le_refl _) (.cells #[.int .i64 F.unit, .slice Ag F.gs.length cg, .slice Am F.map.length cm, .slice Ak F.kern.length ck] 26)
  have hk1 := Blk.new w 26 #[.int .i64 F.unit, .slice Ag F.gs.length cg, .slice Am F.map.length cm, .slice Ak F.kern.length ck]
  generalize hw1 : w.alloc (.cells #[.int .i64 F.unit, .slice Ag F.gs.length cg, .slice Am F.map.length cm, .slice Ak F.kern.length ck] 26) = w1 at *
  have k2 := hk1.cell 2
  simp only [List.getElem?_toArray, List.getElem?_cons_zero, List.getElem?_cons_succ] at k2
  have hmp1 : SlM w1 ok (.slice Am F.map.length cm) F.map.length (F.map.flatMap rgc) := hmp.keep hb1.size fun b _ hb => hb1.block b hb
  have HBs := Lib.hid (bsr_any F c _ ok w1 hmp1 hn)
  have HMp := Lib.hid hmp
  have HK1 := Lib.hid hk1
  have HB1 := Lib.hid hb1
  have cmc := hmp.caps
  unfold maxLen at cmc
  generalize fIdx F c = I at *
  generalize fHit F c = hit at *
  generalize find F c = res at *
  generalize hR : fRange F c = R at *
  have HFd := Lib.hid hFd
  have HHM := Lib.hid hM
  clear hmp1 hkn hmp hgs hk1 hb1 hR hFd hM
  generalize hnm : F.map.length = nm at *
  generalize hng : F.gs.length = N at *
  have HNm := Lib.hid hnm
  clear hnm hng
  by_cases hR0 : R = 0
  · obtain ⟨rfl, rfl⟩ : hit = false ∧ I = 0 := by
      cases hit with
      | false => exact ⟨rfl, by rw [hR0] at hFr; simpa using hFr.symm⟩
      | true => rw [hR0] at hFr; simp at hFr
    have HR : Hid (res = 0) := by unfold Hid; rw [HFd.out, if_pos hR0]
    clear hFr hlo hle
    subst hR0
    go_enter Tryd.func34, Tryd.ntmps34
    go_wp2_with fail
    refine HBs.out.mono ?_
    rintro e w5 ⟨rfl, hb5⟩
    have q2 := (hb5.cell (p := ⟨w.heap.size, 2, none⟩) HK1.out.lt).trans k2
    have HB5 : Hid (Below w.heap.size w w5) := HB1.out.trans (hb5.mono HB1.out.size)
    clear hb5 k2
    go_wp2
    go_ret
    exact ⟨endInt HR.out.symm, HB5.out⟩
  · obtain ⟨j, rfl⟩ : ∃ j, R = j + 1 := ⟨R - 1, by omega⟩
    have hlo' := hlo (by omega)
    rw [Nat.add_sub_cancel] at hlo'
    obtain ⟨b, off, cap, ev, _, hbb, _, _, hcell⟩ := rgs_cells (v := .slice Am nm cm) (by rw [HNm.out]; exact HMp.out) (by rw [HNm.out]; omega)
    injection ev with e1 e2 e3
    subst e1 e3
    clear e2
    obtain ⟨d0, d1, d2⟩ := hcell j (by rw [HNm.out]; omega)
    rw [show F.map.getD j default = rg F j from rfl] at d0 d1 d2
    have hok := HHM.out j (by omega)
    have HF2 : Hid (res = if (rg F j).hi < c then 0 else (rg F j).g + c - (rg F j).lo) := by
      unfold Hid; rw [HFd.out, if_neg (by omega), Nat.add_sub_cancel]
    have y0 := hok.lo0
    have y1 := hok.le
    have y2 := hok.hi1
    have y3 := hok.g0
    have y4 := hok.g1
    clear hok hcell HFd HHM hlo
    generalize rg F j = x at *
    obtain ⟨lo, hi, g⟩ := x
    dsimp only at d0 d1 d2 HF2 hlo' y0 y1 y2 y3 y4
    have ej0 : 0 ≤ (j : Int) := by omega
    have ej1 : (j : Int) < (nm : Int) := by omega
    have ejf : ¬ (j : Int) < 0 := by omega
    have hbw1 : b < w1.heap.size := Nat.lt_of_lt_of_le hbb HB1.out.size
    cases hit with
    | true =>
      obtain rfl : j = I := by simpa using hFr
      clear hFr
      by_cases hc : hi < c
      · have HR : Hid (res = 0) := by unfold Hid; rw [HF2.out, if_pos hc]
        go_enter Tryd.func34, Tryd.ntmps34
        go_wp2_with fail
        refine HBs.out.mono ?_
        rintro e w5 ⟨rfl, hb5⟩
        have q2 := (hb5.cell (p := ⟨w.heap.size, 2, none⟩) HK1.out.lt).trans k2
        have HB5 : Hid (Below w.heap.size w w5) := HB1.out.trans (hb5.mono HB1.out.size)
        replace d1 := (HB5.out.cell (p := ⟨b, off + j * 3 + 1, none⟩) hbb).trans d1
        clear hb5 k2
        go_wp2
        go_ret
        exact ⟨endInt HR.out.symm, HB5.out⟩
      · have HR : Hid (res = g + c - lo) := by unfold Hid; rw [HF2.out, if_neg hc]
        go_enter Tryd.func34, Tryd.ntmps34
        go_wp2_with fail
        refine HBs.out.mono ?_
        rintro e w5 ⟨rfl, hb5⟩
        have q2 := (hb5.cell (p := ⟨w.heap.size, 2, none⟩) HK1.out.lt).trans k2
        have HB5 : Hid (Below w.heap.size w w5) := HB1.out.trans (hb5.mono HB1.out.size)
        replace d0 := (HB5.out.cell (p := ⟨b, off + j * 3, none⟩) hbb).trans d0
        replace d1 := (HB5.out.cell (p := ⟨b, off + j * 3 + 1, none⟩) hbb).trans d1
        replace d2 := (HB5.out.cell (p := ⟨b, off + j * 3 + 2, none⟩) hbb).trans d2
        clear hb5 k2
        go_wp2
        have ew : IntKind.i64.wrap (g + c) = g + c := IntWalk.i64_in _ (by omega)
        have ew2 : IntKind.i64.wrap (g + c - lo) = g + c - lo := IntWalk.i64_in _ (by omega)
        go_quiet (fail)
        go_wp2
        go_ret
        exact ⟨endInt HR.out.symm, below_drewN HB5.out _⟩
    | false =>
      obtain rfl : I = j + 1 := by simpa using hFr.symm
      clear hFr
      by_cases hc : hi < c
      · have HR : Hid (res = 0) := by unfold Hid; rw [HF2.out, if_pos hc]
        go_enter Tryd.func34, Tryd.ntmps34
        go_wp2_with fail
        refine HBs.out.mono ?_
        rintro e w5 ⟨rfl, hb5⟩
        have q2 := (hb5.cell (p := ⟨w.heap.size, 2, none⟩) HK1.out.lt).trans k2
        have HB5 : Hid (Below w.heap.size w w5) := HB1.out.trans (hb5.mono HB1.out.size)
        replace d1 := (HB5.out.cell (p := ⟨b, off + j * 3 + 1, none⟩) hbb).trans d1
        clear hb5 k2
        go_wp2
        go_ret
        exact ⟨endInt HR.out.symm, HB5.out⟩
      · have HR : Hid (res = g + c - lo) := by unfold Hid; rw [HF2.out, if_neg hc]
        go_enter Tryd.func34, Tryd.ntmps34
        go_wp2_with fail
        refine HBs.out.mono ?_
        rintro e w5 ⟨rfl, hb5⟩
        have q2 := (hb5.cell (p := ⟨w.heap.size, 2, none⟩) HK1.out.lt).trans k2
        have HB5 : Hid (Below w.heap.size w w5) := HB1.out.trans (hb5.mono HB1.out.size)
        replace d0 := (HB5.out.cell (p := ⟨b, off + j * 3, none⟩) hbb).trans d0
        replace d1 := (HB5.out.cell (p := ⟨b, off + j * 3 + 1, none⟩) hbb).trans d1
        replace d2 := (HB5.out.cell (p := ⟨b, off + j * 3 + 2, none⟩) hbb).trans d2
        clear hb5 k2
        go_wp2
        have ew : IntKind.i64.wrap (g + c) = g + c := IntWalk.i64_in _ (by omega)
        have ew2 : IntKind.i64.wrap (g + c - lo) = g + c - lo := IntWalk.i64_in _ (by omega)
        go_quiet (fail)
        go_wp2
        go_ret
        exact ⟨endInt HR.out.symm, below_drewN HB5.out _⟩
end Go.Proofs.YtefkglmdkjkbiaaDoor
