/- The walk of literals. -/
import Derived.Test.YtdibgloaknnfgaaLitsW
namespace Go.Proofs.Ytdibgloaknnfgaa
open Go.RowKit
set_option maxHeartbeats 1000000 in
theorem literals_any (B b : Nat) (l : List UInt8) (s : ByteArray) (w : World) (h : Bx B b l w) (hs : s.size ≤ 1000000) (hl : l.length ≤ 1000000) (hB : B ≤ w.heap.size) :
    Calls Try.prog 54 #[.pointer (some ⟨b, 0, none⟩), .string s] w fun e w' => e = .returned (.tuple #[]) ∧ Bx B b (l ++ lits s.data.toList) w' ∧ Below B w w' := by
  have HN := Lib.hid h
  have HBz := Lib.hid hB
  generalize hE : l ++ lits s.data.toList = E
  have HE := Lib.hid hE
  clear hE h hB
  go_enter Try.func54, Try.ntmps54
  go_wp2
  go_loopw [1] (fun vr wr => ∃ (r : ByteArray) (q : List UInt8), vr = .string r ∧ q.length + 2 * r.size ≤ l.length + 2 * s.size ∧ q ++ lits r.data.toList = E ∧ Bx B b q wr ∧ Below B w wr) (fun vr _ => szOf vr)
  case atStart => exact ⟨s, l, rfl, Nat.le_refl _, HE.out, HN.out, Below.refl _ _⟩
  case round =>
    obtain ⟨r, q, rfl, hq, he, hbd, hb⟩ := hrel
    have HBd := Lib.hid hbd
    have HB := Lib.hid hb
    have HEr := Lib.hid he
    clear hbd hb he
    by_cases hr : r.size = 0
    · have hre : r = ⟨#[]⟩ := by
        obtain ⟨d⟩ := r
        have : d.size = 0 := hr
        rw [Array.eq_empty_of_size_eq_zero this]
      subst hre
      have hEl : q = E := by have := HEr.out; rwa [lits_nil rfl, List.append_nil] at this
      subst hEl
      go_wp2
      go_end0
      exact ⟨rfl, HBd.out, HB.out⟩
    · have hk : min (r.size : Int) 128 = ((min r.size 128 : Nat) : Int) := by omega
      obtain ⟨k, hkd⟩ : ∃ k, k = min r.size 128 := ⟨_, rfl⟩
      rw [← hkd] at hk
      have hk0 : 1 ≤ k := by omega
      have hk1 : k ≤ 128 := by omega
      have hk2 : k ≤ r.size := by omega
      have hrl : r.data.toList.length ≠ 0 := by simpa using hr
      have hq0 : r.toList.isEmpty = false := by rw [Lib.toList_data]; cases hd : r.data.toList with | nil => exact absurd (by rw [hd]; rfl) hrl | cons a b => rfl
      have HC : Hid ((k : Int) - 1 = ((UInt8.ofNat (k - 1)).toNat : Int)) := by unfold Hid; simp; omega
      have HKd := Lib.hid hkd
      have HRl := Lib.hid hrl
      clear hkd hrl
      have HBy : Hid (∀ w', Bx B b q w' → B ≤ w'.heap.size → Calls Try.prog 38 #[.pointer (some ⟨b, 0, none⟩), .int .u8 ((k : Int) - 1)] w' fun e w'' => e = .returned .nilIface ∧ Bx B b (q ++ [UInt8.ofNat (k - 1)]) w'' ∧ Below B w' w'') := fun w' hh hB' => by rw [HC.out]; exact bx_byte hh _ (by omega) hB'
      have hBw := Nat.le_trans HBz.out HB.out.size
      go_wp2_with (first
        | (go_at_call 38; refine (HBy.out _ HBd.out hBw).mono ?_; rintro e w2 ⟨rfl, hbd2, hb2⟩; have HB2 := Lib.hid hb2; have HBd2 := Lib.hid hbd2; clear hb2 hbd2)
        | (go_at_call 33; refine (bx_write HBd2.out _ (by rw [ByteArray.size_extract, List.length_append]; simp; omega) (Nat.le_trans hBw HB2.out.size)).mono ?_; rintro e w3 ⟨rfl, hbd3, hb3⟩; have HB3 := Lib.hid hb3; have HBd3 := Lib.hid hbd3; clear hb3 hbd3))
      have e1 : (r.extract 0 k).data.toList = r.data.toList.take k := by simp [ByteArray.data_extract]
      have e2 : (r.extract k r.size).data.toList = r.data.toList.drop k := by
        simp [ByteArray.data_extract]
        exact List.take_of_length_le (by simp)
      refine ⟨⟨_, q ++ [UInt8.ofNat (k - 1)] ++ (r.extract 0 k).data.toList, rfl, ?_, ?_, HBd3.out, (HB.out.trans HB2.out).trans HB3.out⟩, ?_⟩
      · rw [e1, List.length_append, List.length_append, List.length_take, ByteArray.size_extract]; simp; omega
      · rw [e1, e2, ← HEr.out, lits_more HRl.out]
        have hl : r.data.toList.length = r.size := by simp
        rw [hl, ← HKd.out]
        have h1 : r.data.toList.take 128 = r.data.toList.take k := by
          rcases Nat.le_total r.size 128 with h | h
          · rw [List.take_of_length_le (by omega), List.take_of_length_le (by rw [HKd.out]; omega)]
          · rw [HKd.out, Nat.min_eq_right h]
        have h2 : r.data.toList.drop 128 = r.data.toList.drop k := by
          rcases Nat.le_total r.size 128 with h | h
          · rw [List.drop_of_length_le (by omega), List.drop_of_length_le (by rw [HKd.out]; omega)]
          · rw [HKd.out, Nat.min_eq_right h]
        rw [h1, h2]; simp
      · show (r.extract k r.size).size < r.size
        rw [ByteArray.size_extract]; omega
end Go.Proofs.Ytdibgloaknnfgaa
