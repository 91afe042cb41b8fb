/- The walk of FontDecodeUnique. -/
import Derived.Test.YtefkglmdkjkbiaaDoorFntRt
import Derived.Test.YtefkglmdkjkbiaaDoorWithin
import Derived.Laws.BytesArg
import Derived.IntWalk
import Derived.BigRegion
import Derived.RegionTactic
namespace Go.Proofs.YtefkglmdkjkbiaaDoor
open Go.RowKit Fnt
theorem ext_size (S : ByteArray) (q : Nat) (c : UInt8) (h : q < S.size) : (S.extract 0 q ++ ⟨#[c]⟩ ++ S.extract (q + 1) S.size).size = S.size := by
  rw [ByteArray.size_append, ByteArray.size_append, ByteArray.size_extract, ByteArray.size_extract]
  show min q S.size - 0 + 1 + (min S.size S.size - (q + 1)) = S.size
  omega
theorem ext_same (S : ByteArray) (q : Nat) (h : q < S.size) : S.extract 0 q ++ ⟨#[S[q]]⟩ ++ S.extract (q + 1) S.size = S := by
  have hl : q < S.data.toList.length := by rw [Array.length_toList]; exact h
  apply ByteArray.ext
  apply Array.ext'
  rw [ByteArray.data_append, ByteArray.data_append, ByteArray.data_extract, ByteArray.data_extract]
  simp only [Array.toList_append, Array.toList_extract, List.extract_eq_take_drop, Nat.sub_zero, List.drop_zero]
  have e1 : (S.data.toList.drop (q + 1)).take (S.size - (q + 1)) = S.data.toList.drop (q + 1) := List.take_of_length_le (by rw [List.length_drop, Array.length_toList]; exact Nat.le_refl _)
  rw [e1]
  have e2 : S.data.toList.take q ++ [S.data.toList[q]] ++ S.data.toList.drop (q + 1) = S.data.toList := by
    rw [List.append_assoc, List.singleton_append, ← List.drop_eq_getElem_cons hl, List.take_append_drop]
  exact e2
set_option maxRecDepth 100000 in
set_option maxHeartbeats 8000000 in
theorem uniq_any (F : Font) (fv : Value) (at_ by_ : Int) (w : World) (hf : FntV w (fun _ => True) fv F) (hT : Tab w) (h0 : 0 < w.heap.size) :
    Calls Tryd.prog 4 #[fv, .int .i64 at_, .int .u8 by_] w fun e w' => e = .returned (.bool true) ∧ Below w.heap.size w w' := by
  have HTw : Hid (∀ ww, Below w.heap.size w ww → Tab ww) := fun ww hb i hi => (hb.cell (p := ⟨0, i, none⟩) h0).trans (hT i hi)
  have HFo := Lib.hid fun W (hb : Below w.heap.size w W) => fonts_any W (HTw.out W hb) (Nat.lt_of_lt_of_le h0 hb.size)
  have HEn := Lib.hid fun W (hb : Below w.heap.size w W) => encode_any F fv _ W (hf.later hb) (HTw.out W hb) (Nat.lt_of_lt_of_le h0 hb.size)
  obtain ⟨Ag, cg, Am, cm, Ak, ck, rfl, _, _⟩ := fnt_form hf
  have hb1 := (Below.refl w.heap.size w).alloc (Nat.le_refl _) (.cells #[.int .i64 F.unit, .slice Ag F.gs.length cg, .slice Am F.map.length cm, .slice Ak F.kern.length ck] 26)
  have hk1 := Blk.new w 26 #[.int .i64 F.unit, .slice Ag F.gs.length cg, .slice Am F.map.length cm, .slice Ak F.kern.length ck]
  generalize hw1 : w.alloc (.cells #[.int .i64 F.unit, .slice Ag F.gs.length cg, .slice Am F.map.length cm, .slice Ak F.kern.length ck] 26) = w1 at *
  have HF1 := Lib.hid (HFo.out w1 hb1)
  have HB1 := Lib.hid hb1
  have HK1 := Lib.hid hk1
  have k0 := hk1.cell 0
  have k1 := hk1.cell 1
  have k2 := hk1.cell 2
  have k3 := hk1.cell 3
  simp only [List.getElem?_toArray, List.getElem?_cons_zero, List.getElem?_cons_succ] at k0 k1 k2 k3
  clear hb1 hk1 hf hT
  go_enter Tryd.func4, Tryd.ntmps4
  go_wp2_with fail
  refine HF1.out.mono ?_
  rintro e w2 ⟨rfl, hb2⟩
  have HB2 := Lib.hid (HB1.out.trans (hb2.mono HB1.out.size))
  have HE2 := Lib.hid (HEn.out w2 HB2.out)
  have q0 := (hb2.cell (p := ⟨w.heap.size, 0, none⟩) HK1.out.lt).trans k0
  have q1 := (hb2.cell (p := ⟨w.heap.size, 1, none⟩) HK1.out.lt).trans k1
  have q2 := (hb2.cell (p := ⟨w.heap.size, 2, none⟩) HK1.out.lt).trans k2
  have q3 := (hb2.cell (p := ⟨w.heap.size, 3, none⟩) HK1.out.lt).trans k3
  clear hb2 k0 k1 k2 k3
  have hEv : encV F = if checkE F = 0 then .tuple #[.string ⟨(Fnt.written F).toArray⟩, .int .i64 0] else .tuple #[.string ⟨#[]⟩, .int .i64 (checkE F)] := rfl
  by_cases hc : checkE F = 0
  · have hdw := dec_written hc
    have hws := written_small hc
    rw [if_pos hc] at hEv
    rw [hEv] at HE2
    have hsz := wr_size F
    rw [← hsz] at hws
    have hpos : 0 < (⟨(Fnt.written F).toArray⟩ : ByteArray).size := by
      rw [hsz, wr_head F]; simp
    obtain ⟨S, hS⟩ : ∃ S : ByteArray, S = ⟨(Fnt.written F).toArray⟩ := ⟨_, rfl⟩
    rw [← hS] at HE2 hdw hws hpos
    have HDw := Lib.hid hdw
    have hne : S.toList.isEmpty = false := by
      rw [Lib.toList_data]
      cases h : S.data.toList with
      | nil =>
        have : S.size = 0 := by show S.data.size = 0; rw [← Array.length_toList, h]; rfl
        omega
      | cons => rfl
    clear hEv hS hsz hdw hc
    go_wp2_with fail
    refine HE2.out.mono ?_
    rintro e w3 ⟨rfl, hb3⟩
    have HB3 := Lib.hid (HB2.out.trans (hb3.mono HB2.out.size))
    clear hb3 q0 q1 q2 q3
    have hwlo := wi_lo at_ 0 ((S.size : Int) - 1) (by omega)
    have hwhi := wi_hi at_ 0 ((S.size : Int) - 1) (by omega)
    have HWi := Lib.hid fun W => within_any at_ 0 ((S.size : Int) - 1) W (by omega) (by omega) (by omega)
    obtain ⟨q, hq⟩ : ∃ q : Nat, wi at_ 0 ((S.size : Int) - 1) = (q : Int) := ⟨_, (Int.toNat_of_nonneg hwlo).symm⟩
    rw [hq] at HWi hwhi
    have hqs : q < S.size := by omega
    clear hwlo hwhi hq
    go_wp2_with fail
    refine (HWi.out _).mono ?_
    rintro e w4 ⟨rfl, rfl⟩
    go_wp2
    obtain ⟨cc, hcc⟩ : ∃ cc : UInt8, IntKind.u8.wrap ((S[q].toNat : Int) + by_) = (cc.toNat : Int) := ⟨UInt8.ofNat (((S[q].toNat : Int) + by_) % 256).toNat, by
      rw [u8i]; simp [IntKind.wrap, IntKind.bits, IntKind.signed]⟩
    have hconv : (convert 42 9 (.slice (some ⟨w3.heap.size, 0, none⟩) 1 1)).run Tryd.prog (w3.alloc (.cells #[.int .u8 (cc.toNat : Int)] 5)).drew = .ok (.string ⟨#[cc]⟩) (w3.alloc (.cells #[.int .u8 (cc.toNat : Int)] 5)).drew := by
      have := run_convert_bytes_arg (P := Tryd.prog) (w := (w3.alloc (.cells #[.int .u8 (cc.toNat : Int)] 5)).drew) 42 5 Tryd.underlying42 Tryd.underlying5 w3.heap.size 0 1 1 [(cc.toNat : Int)] rfl (fun i hi => by
        obtain rfl : i = 0 := by omega
        exact ((Blk.new w3 5 #[.int .u8 (cc.toNat : Int)]).cell 0).trans rfl) 9 Tryd.underlying9
      rw [this]
      congr 1
      simp [strOfNums]
    have x1 : 0 ≤ (q : Int) := by omega
    have x2 : (q : Int) ≤ (S.size : Int) := by omega
    have x3 : (q : Int) < (S.size : Int) := by omega
    have x4 : IntKind.i64.wrap ((q : Int) + 1) = (q : Int) + 1 := IntWalk.i64_in _ (by omega)
    have x5 : 0 ≤ (q : Int) + 1 := by omega
    have x6 : (q : Int) + 1 ≤ (S.size : Int) := by omega
    have hts := ext_size S q cc hqs
    have hsame : by_ = 0 → S.extract 0 q ++ ⟨#[cc]⟩ ++ S.extract (q + 1) S.size = S := fun hb => by
      have h1 : (cc.toNat : Int) = (S[q].toNat : Int) := by
        rw [← hcc, hb]
        have := S[q].toNat_lt
        simp [IntKind.wrap, IntKind.bits, IntKind.signed]
        omega
      have h2 : cc = S[q] := UInt8.toNat_inj.1 (by omega)
      rw [h2]; exact ext_same S q hqs
    have HTs := Lib.hid hts
    have HSm := Lib.hid hsame
    have hb4 : Below w.heap.size w (w3.alloc (.cells #[.int .u8 (cc.toNat : Int)] 5)).drew := (HB3.out.alloc HB3.out.size _).drew
    have HB4 := Lib.hid hb4
    clear hts hsame hb4
    go_region
    have HDc := Lib.hid (decode_any (S.extract 0 q ++ ⟨#[cc]⟩ ++ S.extract (q + 1) S.size) _ (by rw [HTs.out]; exact hws) (HTw.out _ HB4.out) (Nat.lt_of_lt_of_le h0 HB4.out.size))
    have hdc := dec_cases (S.extract 0 q ++ ⟨#[cc]⟩ ++ S.extract (q + 1) S.size) (by rw [HTs.out]; exact hws)
    have hnz : dec (S.extract 0 q ++ ⟨#[cc]⟩ ++ S.extract (q + 1) S.size) = (zeroF, 4) → by_ ≠ 0 := fun h hb => by
      rw [HSm.out hb, HDw.out] at h
      injection h with _ h
      omega
    have HNz := Lib.hid hnz
    clear hnz HSm HTs hcc hconv x4
    generalize S.extract 0 q ++ ⟨#[cc]⟩ ++ S.extract (q + 1) S.size = T at *
    generalize (w3.alloc (.cells #[.int .u8 (cc.toNat : Int)] 5)).drew = w4 at *
    go_wp2_with fail
    refine HDc.out.mono ?_
    rintro e w5 ⟨gv, rfl, hgv, hb5⟩
    have HB5 := Lib.hid (HB4.out.trans (hb5.mono HB4.out.size))
    clear hb5
    rcases hdc with hd | ⟨G, hd, hcG, hwG⟩
    · have hby0 : (by_ != 0) = true := by simpa using HNz.out hd
      rw [hd] at hgv ⊢
      dsimp only at hgv ⊢
      obtain ⟨Bg, dg, Bm, dm, Bk, dk, rfl, _, _⟩ := fnt_form hgv
      have hb6 := fun o => HB5.out.alloc HB5.out.size o
      have HB6 := Lib.hid hb6
      clear hgv hb6 hd
      simp only [zeroF, List.length_nil]
      go_wp2
      go_ret
      exact ⟨by simp, HB6.out _⟩
    · rw [hd] at hgv ⊢
      dsimp only at hgv ⊢
      have hEG : encV G = .tuple #[.string T, .int .i64 0] := by
        unfold encV
        rw [if_pos hcG, hwG]
      obtain ⟨Bg, dg, Bm, dm, Bk, dk, rfl, _, _⟩ := fnt_form hgv
      have hb6 := HB5.out.alloc HB5.out.size (.cells #[.int .i64 G.unit, .slice Bg G.gs.length dg, .slice Bm G.map.length dm, .slice Bk G.kern.length dk] 26)
      have hE6 := encode_any G _ _ (w5.alloc (.cells #[.int .i64 G.unit, .slice Bg G.gs.length dg, .slice Bm G.map.length dm, .slice Bk G.kern.length dk] 26)) (hgv.later ((Below.refl _ _).alloc (Nat.le_refl _) _)) (HTw.out _ hb6) (Nat.lt_of_lt_of_le h0 hb6.size)
      rw [hEG] at hE6
      have HE6 := Lib.hid hE6
      have HB6 := Lib.hid hb6
      clear hgv hb6 hd hE6 hEG hcG hwG
      go_wp2_with fail
      refine HE6.out.mono ?_
      rintro e w7 ⟨rfl, hb7⟩
      have HB7 := Lib.hid (HB6.out.trans (hb7.mono HB6.out.size))
      clear hb7
      go_wp2
      go_ret
      exact ⟨by simp, HB7.out⟩
  · rw [if_neg hc] at hEv
    rw [hEv] at HE2
    have hne : (checkE F != 0) = true := by simpa using hc
    clear hEv
    generalize checkE F = e0 at *
    clear hc
    go_wp2_with fail
    refine HE2.out.mono ?_
    rintro e w3 ⟨rfl, hb3⟩
    have HB3 := Lib.hid (HB2.out.trans (hb3.mono HB2.out.size))
    clear hb3
    go_wp2
    go_ret
    exact ⟨by simp, HB3.out⟩
end Go.Proofs.YtefkglmdkjkbiaaDoor
