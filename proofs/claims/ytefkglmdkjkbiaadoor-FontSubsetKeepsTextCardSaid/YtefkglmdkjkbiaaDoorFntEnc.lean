/- The walk of Encode. -/
import Derived.Test.YtefkglmdkjkbiaaDoorFntChk
import Derived.Test.YtefkglmdkjkbiaaDoorFntFok
namespace Go.Proofs.YtefkglmdkjkbiaaDoor
open Go.RowKit Fnt
/-- What Encode answers. -/
def encV (F : Font) : Value := if checkE F = 0 then .tuple #[.string ⟨(Fnt.written F).toArray⟩, .int .i64 0] else .tuple #[.string ⟨#[]⟩, .int .i64 (checkE F)]
set_option maxHeartbeats 4000000 in
theorem encode_any (F : Font) (fv : Value) (ok : Nat → Prop) (w : World) (hf : FntV w ok fv F) (hT : Tab w) (h0 : 0 < w.heap.size) :
    Calls Tryd.prog 12 #[fv] w fun e w' => e = .returned (encV F) ∧ Below w.heap.size w w' := by
  have HTw : Hid (∀ ww, Below w.heap.size w ww → Tab ww) := fun ww hb i hi => (hb.cell (p := ⟨0, i, none⟩) h0).trans (hT i hi)
  have HFv := Lib.hid fun W (hb : Below w.heap.size w W) => hf.later hb
  have HF := Lib.hid fun W (hb : Below w.heap.size w W) => check_any F fv ok W (hf.later hb) (HTw.out W hb) (Nat.lt_of_lt_of_le h0 hb.size)
  have HW : Hid (checkE F = 0 → ∀ W, Below w.heap.size w W → Calls Tryd.prog 37 #[fv] W fun e w' => e = .returned (.string ⟨(Fnt.written F).toArray⟩) ∧ Below W.heap.size W w') := fun hc W hb => by
    have hk := fok hc
    exact written_any F fv ok W (hf.later hb) hk.n1 hk.gl hk.m1 hk.k1 (HTw.out W hb) (Nat.lt_of_lt_of_le h0 hb.size)
  have hV : encV F = if checkE F = 0 then .tuple #[.string ⟨(Fnt.written F).toArray⟩, .int .i64 0] else .tuple #[.string ⟨#[]⟩, .int .i64 (checkE F)] := rfl
  obtain ⟨vg, vm, vk, rfl, hgs, hmp, hkn⟩ := hf
  obtain ⟨Ag, cg, rfl, hg1, hg2⟩ : ∃ A c, vg = .slice A F.gs.length c ∧ F.gs.length ≤ c ∧ c ≤ maxLen := by
    obtain ⟨vs, ⟨A, c, e, a, b, _⟩, _⟩ := hgs
    exact ⟨A, c, e, a, b⟩
  obtain ⟨Am, cm, rfl⟩ := SlM.form hmp
  obtain ⟨Ak, ck, rfl⟩ := SlM.form hkn
  have hb1 := (Below.refl w.heap.size w).alloc (Nat.le_refl _) (.cells #[.int .i64 F.unit, .slice Ag F.gs.length cg, .slice Am F.map.length cm, .slice Ak F.kern.length ck] 26)
  have hk1 := Blk.new w 26 #[.int .i64 F.unit, .slice Ag F.gs.length cg, .slice Am F.map.length cm, .slice Ak F.kern.length ck]
  have HC := Lib.hid (HF.out _ hb1)
  have HB1 := Lib.hid hb1
  have HK1 := Lib.hid hk1
  have k0 := hk1.cell 0
  have k1 := hk1.cell 1
  have k2 := hk1.cell 2
  have k3 := hk1.cell 3
  simp only [List.getElem?_toArray, List.getElem?_cons_zero, List.getElem?_cons_succ] at k0 k1 k2 k3
  clear hgs hmp hkn HF hb1 hT hk1
  generalize encV F = ev at *
  generalize (⟨(Fnt.written F).toArray⟩ : ByteArray) = s at *
  by_cases hc : checkE F = 0
  · rw [if_pos hc] at hV
    have HV := Lib.hid hV
    have HWr := Lib.hid (HW.out hc)
    rw [hc] at HC
    clear hV hc HW
    generalize hw1 : w.alloc (.cells #[.int .i64 F.unit, .slice Ag F.gs.length cg, .slice Am F.map.length cm, .slice Ak F.kern.length ck] 26) = w1 at *
    go_enter Tryd.func12, Tryd.ntmps12
    go_wp2_with fail
    refine HC.out.mono ?_
    rintro e w5 ⟨rfl, hb5⟩
    have HB5 : Hid (Below w.heap.size w w5) := HB1.out.trans (hb5.mono HB1.out.size)
    have q0 := (hb5.cell (p := ⟨w.heap.size, 0, none⟩) HK1.out.lt).trans k0
    have q1 := (hb5.cell (p := ⟨w.heap.size, 1, none⟩) HK1.out.lt).trans k1
    have q2 := (hb5.cell (p := ⟨w.heap.size, 2, none⟩) HK1.out.lt).trans k2
    have q3 := (hb5.cell (p := ⟨w.heap.size, 3, none⟩) HK1.out.lt).trans k3
    clear hb5 k0 k1 k2 k3
    go_wp2_with fail
    refine (HWr.out _ HB5.out).mono ?_
    rintro e w6 ⟨rfl, hb6⟩
    have HB6 : Hid (Below w.heap.size w w6) := HB5.out.trans (hb6.mono HB5.out.size)
    clear hb6
    go_wp2
    go_ret2
    exact ⟨congrArg Ending.returned HV.out.symm, HB6.out⟩
  · rw [if_neg hc] at hV
    have HV := Lib.hid hV
    clear hV HW
    generalize checkE F = e0 at *
    generalize hw1 : w.alloc (.cells #[.int .i64 F.unit, .slice Ag F.gs.length cg, .slice Am F.map.length cm, .slice Ak F.kern.length ck] 26) = w1 at *
    go_enter Tryd.func12, Tryd.ntmps12
    go_wp2_with fail
    refine HC.out.mono ?_
    rintro e w5 ⟨rfl, hb5⟩
    have HB5 : Hid (Below w.heap.size w w5) := HB1.out.trans (hb5.mono HB1.out.size)
    clear hb5 k0 k1 k2 k3
    go_wp2
    go_ret2
    exact ⟨congrArg Ending.returned HV.out.symm, HB5.out⟩
end Go.Proofs.YtefkglmdkjkbiaaDoor
