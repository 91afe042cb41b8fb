/- The walk of stores. -/
import Derived.Test.YtpfkmjckjomeeaaDoorArcCol
namespace Go.Proofs.YtpfkmjckjomeeaaDoor
open Go.RowKit Arc
open Go.Maps (Keyed)
namespace Arc
def nA : ByteArray := ⟨#[97]⟩
def dXY : ByteArray := ⟨#[120, 121]⟩
theorem parts_short (s : ByteArray) (h1 : 0 < s.size) (h2 : s.size < 32) : parts s = [s] := by
  have hp := cutN_pos (l := s.data.toList) (by simpa using h1)
  simp only [Array.length_toList, ByteArray.size_data] at hp
  have hc : cutN s.data.toList = s.size := by
    rcases hp.2.2.2 with h | h
    · omega
    · exact h
  unfold parts
  rw [cuts_cons h1, hc, cuts_nil (by rw [size_rest]; omega)]
  show [s.extract 0 s.size] = [s]
  rw [ByteArray.extract_zero_size]
theorem none_store_one (s : ByteArray) : (Pcs.none.store [s]).1.sto = s.size ∧ (Pcs.none.store [s]).1.cnt = 1 := by
  have e : (Pcs.none.store [s]).1 = Pcs.none.add s := rfl
  rw [e]
  refine ⟨?_, ?_⟩
  · have := sum_add Pcs.none Pcs.none_ok s sizes rfl s.size fun l => by simp [sizes, List.sum_append]
    unfold Pcs.sto
    rw [this]
    have e2 : (Pcs.none.L.map fun k => sizes (Pcs.none.f k)).sum = 0 := rfl
    rw [e2, Nat.zero_add]
  · have := sum_add Pcs.none Pcs.none_ok s List.length rfl 1 fun l => by simp
    unfold Pcs.cnt
    rw [this]
    have e2 : (Pcs.none.L.map fun k => (Pcs.none.f k).length).sum = 0 := rfl
    rw [e2, Nat.zero_add]
end Arc
set_option maxRecDepth 100000 in
set_option maxHeartbeats 8000000 in
theorem stores_any (w : World) (hT : Tab w) (h1 : 1 ≤ w.heap.size) :
    Calls Tryd.prog 7 #[] w fun e w' => e = .returned (.bool true) ∧ Below w.heap.size w w' := by
  have HT := Lib.hid hT
  clear hT
  go_enter Tryd.func7, Tryd.ntmps7
  go_wp2_with fail
  refine (new_any w).mono ?_; rintro e w1 ⟨A, V, rfl, am, hb1, hn⟩
  have AM1 := Lib.hid am
  have HB1 := Lib.hid hb1
  have T1 := Lib.hid (tab_keep (ok := fun _ => False) HT.out (.of_below hb1) id (by omega))
  have hn0 : V.n ≤ 0 := by omega
  clear am hb1 hn
  go_wp2_with fail
  refine (put_new nA dXY w1 AM1.out T1.out h1 ⟨by decide, by decide, by decide⟩ (by decide) (by omega) (fun j hj => by simp [St.none, St.order] at hj) (by decide)).mono ?_; rintro e w2 ⟨V2, rfl, am2, fr2, fn2, n2⟩
  have hp1 : parts dXY = [dXY] := parts_short dXY (by decide) (by decide)
  have hsto : (St.none.add nA dXY).p.sto = 2 ∧ (St.none.add nA dXY).p.cnt = 1 := by
    show ((Pcs.none.store (parts dXY)).1.sto = 2) ∧ ((Pcs.none.store (parts dXY)).1.cnt = 1)
    rw [hp1]; exact none_store_one dXY
  have hhas : (St.none.add nA dXY).Has [(nA, dXY)] := none_has.add nA dXY
  have hord : (St.none.add nA dXY).order = [nA] := hhas.nm
  have hps : pos (St.none.add nA dXY).order nA = 0 := by rw [hord]; decide
  have hsrt : Srt (St.none.add nA dXY).order := by rw [hord]; exact List.pairwise_singleton _ _
  have AM2 := Lib.hid am2
  have T2 := Lib.hid (tab_keep T1.out fr2 (fun e => by have := (AM1.out.fp_lt e).1; omega) (by have := HB1.out.size; omega))
  have HB2 : Hid (Below w.heap.size w w2) := HB1.out.trans (fr2.below (fun b e => (AM1.out.fp_lt e).1) HB1.out.size)
  have HF2 : Hid (∀ b, Fp A V2 b → w.heap.size ≤ b) := fun b e => (AM2.out.fp_lt e).1
  have HD := Lib.hid (drop_some nA w2 am2 hsrt (by rw [hord]; decide) (by rw [hord]; simp) (by decide))
  rw [hps] at HD
  have hhas2 := hhas.drop 0
  have HH := Lib.hid hhas2
  have HS := Lib.hid hsto
  have HO := Lib.hid hord
  clear am2 fr2 fn2 hhas hord hps hsrt hhas2 hsto hp1
  go_wp2_with fail
  refine HD.out.mono ?_; rintro e w3 ⟨V3, rfl, am3, fr3, fn3, n3⟩
  have AM3 := Lib.hid am3
  have T3 := Lib.hid (tab_keep T2.out fr3 (fun e => by have := HF2.out _ e; omega) (by have := HB2.out.size; omega))
  have HB3 : Hid (Below w.heap.size w w3) := HB2.out.trans (fr3.below HF2.out HB2.out.size)
  have HC := Lib.hid (collect_any (d := []) w3 am3 T3.out h1 HH.out (by
    show Srt (St.order ⟨_, List.eraseIdx _ 0⟩)
    rw [HH.out.nm]; exact Srt.nil) (by decide) (fun x hx => by cases hx) (by show (St.none.add nA dXY).p.cnt ≤ _; rw [HS.out.2]; decide) (by show (St.none.add nA dXY).p.sto ≤ _; rw [HS.out.1]; decide) (by show V3.n + 0 + 0 ≤ _; omega))
  clear am3 fr3 fn3 HD
  go_wp2_with fail
  refine HC.out.mono ?_; rintro e w4 ⟨V4, rfl, am4, fr4, fn4, n4⟩
  have AM4 := Lib.hid am4
  have HB4 : Hid (Below w.heap.size w w4) := HB3.out.trans (fr4.below (fun b e => (AM3.out.fp_lt e).1) HB3.out.size)
  have e2 : ((St.p ⟨(St.none.add nA dXY).p, (St.none.add nA dXY).nm.eraseIdx 0⟩).sto : Int) - ((build []).p.sto : Int) = 2 := by
    show (((St.none.add nA dXY).p.sto : Int) - ((build []).p.sto : Int)) = 2
    rw [HS.out.1]; rfl
  rw [e2]
  clear am4 fr4 fn4 HC e2
  go_wp2_with fail
  refine (names_any w4 AM4.out (by decide)).mono ?_; rintro e w5 ⟨v', rfl, ho, hb5⟩
  obtain ⟨Av, cv, rfl⟩ := own_form ho
  have HB5 : Hid (Below w.heap.size w w5) := HB4.out.trans (hb5.mono HB4.out.size)
  have e3 : (build []).order.length = 0 := rfl
  rw [e3]
  clear ho hb5 e3
  go_wp2
  go_ret
  exact ⟨rfl, HB5.out⟩
end Go.Proofs.YtpfkmjckjomeeaaDoor
