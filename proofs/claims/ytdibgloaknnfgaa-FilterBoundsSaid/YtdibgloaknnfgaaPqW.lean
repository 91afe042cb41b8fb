/- A builder's Write, and the literals of copies.encode, where the builder's bytes lie from a block R on. -/
import Derived.Test.YtdibgloaknnfgaaPqT
import Derived.Test.YtdibgloaknnfgaaFltNote
namespace Go.Proofs.Ytdibgloaknnfgaa.Pq
open Go.RowKit
theorem copyCheck2 (R b : Nat) (bs : List Value) (w : World) (h : PB R b (.pointer none) bs w ∨ PB R b (.pointer (some ⟨b, 0, none⟩)) bs w) :
    Calls Try.prog 39 #[.pointer (some ⟨b, 0, none⟩)] w fun e w' => e = .returned (.tuple #[]) ∧ (PB R b (.pointer (some ⟨b, 0, none⟩)) bs w' ∧ FrX R b w w') ∧ ∀ k, k ≠ b → w'.heap[k]? = w.heap[k]? := by
  rcases h with ⟨v, hbk, hown, hne⟩ | ⟨v, hbk, hown, hne⟩
  · have c0 := hbk.cell 0
    have hsh : w.shape? b = some (66, 2) := by have : w.heap[b]? = _ := hbk; simp [World.shape?, this]
    refine (Builder_copyCheck_fresh b w (by simpa using c0) hsh (hbk.frozen 0)).mono ?_
    rintro e w' ⟨rfl, rfl⟩
    exact ⟨rfl, ⟨⟨v, by have := hbk.put 0 (.pointer (some ⟨b, 0, none⟩)); simpa using this, own_setCell hown (.inr hne) _, hne⟩, FrX.set _ _ _ _ _⟩, fun k hk => Below.heap_setCell w ⟨b, 0, none⟩ _ k hk⟩
  · have c0 := hbk.cell 0
    refine (Builder_copyCheck_used b w (by simpa using c0)).mono ?_
    rintro e w' ⟨rfl, rfl⟩
    exact ⟨rfl, ⟨⟨v, hbk, hown, hne⟩, FrX.refl _ _ _⟩, fun k hk => rfl⟩
set_option maxHeartbeats 2000000 in
theorem Builder_Write (R b : Nat) (bs news : List Value) (g m c : Nat) (w : World) (h : PB R b (.pointer none) bs w ∨ PB R b (.pointer (some ⟨b, 0, none⟩)) bs w) (hlen : bs.length + m ≤ 140737488355328) (hRw : R ≤ w.heap.size)
    (hg : Row w g news) (hgb : g ≠ b) (hm : news.length = m) (h1 : ∀ u ∈ news, u.oneCell' = true) :
    Calls Try.prog 55 #[.pointer (some ⟨b, 0, none⟩), .slice (some ⟨g, 0, none⟩) m c] w fun e w' => e = .returned (.tuple #[.int .i64 m, .nilIface]) ∧ (PB R b (.pointer (some ⟨b, 0, none⟩)) (bs ++ news) w' ∧ FrX R b w w') := by
  obtain ⟨i0, hi, hz0, hz1, hz2⟩ := info_parts (show (Try.prog.info? 5).map (fun i => (i.zero, i.size, i.bytes)) = some (some (.int .u8 0), 1, 1) by kernel_rfl)
  go_enter Try.func55, Try.ntmps55
  go_wp2_with (go_at_call 39; refine (copyCheck2 R b bs _ h).mono ?_)
  rintro e w1 ⟨rfl, ⟨h1', hb1⟩, hkp⟩
  obtain ⟨v, hbk, hown, hne⟩ := h1'
  have c0 : w1.cell? ⟨b, 0, none⟩ = some (.pointer (some ⟨b, 0, none⟩)) := by rw [hbk.cell]; rfl
  have c1 : w1.cell? ⟨b, 1, none⟩ = some v := by rw [hbk.cell]; rfl
  have hr1 : Row w1 g news := hg.keep (Nat.lt_of_lt_of_le hg.lt hb1.size) (hkp g hgb)
  clear hkp
  go_wp2_with (at_builtin; refine wpList_append_own _ rfl _ _ 32 rfl R 5 i0 (.int .u8 0) 1 1 Try.underlying32 hi hz0 hz1 hz2 rfl (by decide) _ _ _ rfl hown ⟨g, 0, none⟩ m c news rfl ?c0 ?c1 h1 ?c3 ?c4 ?c5 ?_)
  case c0 => omega
  case c1 =>
    intro j u hj
    rw [add_plain, Nat.zero_add]
    exact hr1.cell j u hj
  case c3 => unfold maxLen; omega
  case c4 => omega
  case c5 => have := hb1.size; omega
  intro v' w2 hown' hgrow _
  have hlt : b < w1.heap.size := hbk.lt
  have hb2 : Blk w2 b 66 #[.pointer (some ⟨b, 0, none⟩), v] := by
    show w2.heap[b]? = _
    rw [hgrow.block b hlt (fun e => hne e.symm)]
    exact hbk
  have d0 : w2.cell? ⟨b, 0, none⟩ = some (.pointer (some ⟨b, 0, none⟩)) := by rw [hb2.cell]; rfl
  have d1 : w2.cell? ⟨b, 1, none⟩ = some v := by rw [hb2.cell]; rfl
  have f1 : w2.frozen? ⟨b, 1, none⟩ = false := hb2.frozen 1
  obtain ⟨ao, n', cap, rfl⟩ : ∃ ao n' cap, v' = .slice ao n' cap := by
    rcases hown'.2 with ⟨hv, _⟩ | ⟨g, cap, cur, hv, _⟩
    · exact ⟨_, _, _, hv⟩
    · exact ⟨_, _, _, hv⟩
  go_wp2
  go_ret2
  refine ⟨rfl, ⟨?_, ?_⟩⟩
  · exact PB.put hb2 (by rw [List.length_append, hm]; exact hown')
  · exact hb1.trans ((FrX.of_grown hgrow (by have := hb1.size; omega) fun k hk => (hown.lt k hk).1).trans (FrX.set _ _ _ _ _))
theorem pk_put {R b : Nat} {l : List UInt8} {w : World} (h : Pk R b l w) (news : List UInt8) (g c : Nat) (hg : BRow w g news) (hgb : g ≠ b) (hn : news ≠ []) (hl : l.length + news.length ≤ 10000000) (hB : R ≤ w.heap.size) :
    Calls Try.prog 55 #[.pointer (some ⟨b, 0, none⟩), .slice (some ⟨g, 0, none⟩) news.length c] w fun e w' => e = .returned (.tuple #[.int .i64 (news.length : Nat), .nilIface]) ∧ Pk R b (l ++ news) w' ∧ FrX R b w w' := by
  refine (Builder_Write R b _ (news.map fun b : UInt8 => Value.int .u8 (b.toNat : Int)) g news.length c w h.1 (by rw [Lib.byteCells_length]; omega) hB hg hgb (by simp) (fun u hu => by obtain ⟨x, _, rfl⟩ := List.mem_map.1 hu; rfl)).mono ?_
  rintro e w' ⟨rfl, h1, h2⟩
  refine ⟨rfl, ⟨.inr ?_, fun e => absurd (List.append_eq_nil_iff.1 e).2 hn⟩, h2⟩
  rw [byteCells_append]
  exact h1
set_option maxHeartbeats 1000000 in
theorem literals_any (R b : Nat) (l : List UInt8) (s : ByteArray) (w : World) (h : Pk R b l w) (hs : s.size ≤ 1000000) (hl : l.length ≤ 2000000) (hB : R ≤ w.heap.size) :
    Calls Try.prog 54 #[.pointer (some ⟨b, 0, none⟩), .string s] w fun e w' => e = .returned (.tuple #[]) ∧ Pk R b (l ++ litC s.data.toList) w' ∧ FrX R b w w' := by
  have HN := Lib.hid h
  have HBz := Lib.hid hB
  generalize hE : l ++ litC s.data.toList = E
  have HE := Lib.hid hE
  clear hE h hB
  go_enter Try.func54, Try.ntmps54
  go_wp2
  go_loopw [1] (fun vr wr => ∃ (r : ByteArray) (q : List UInt8), vr = .string r ∧ q.length + 2 * r.size ≤ l.length + 2 * s.size ∧ q ++ litC r.data.toList = E ∧ Pk R b q wr ∧ FrX R b w wr) (fun vr _ => szOf vr)
  case atStart => exact ⟨s, l, rfl, Nat.le_refl _, HE.out, HN.out, FrX.refl _ _ _⟩
  case round =>
    obtain ⟨r, q, rfl, hq, he, hbd, hb⟩ := hrel
    have HBd := Lib.hid hbd
    have HB := Lib.hid hb
    have HEr := Lib.hid he
    clear hbd hb he
    by_cases hr : r.size = 0
    · have hre : r = ⟨#[]⟩ := by
        obtain ⟨d⟩ := r
        have : d.size = 0 := hr
        rw [Array.eq_empty_of_size_eq_zero this]
      subst hre
      have hEl : q = E := by have := HEr.out; rwa [show litC (⟨#[]⟩ : ByteArray).data.toList = [] from litC_nil, List.append_nil] at this
      subst hEl
      go_wp2
      go_end0
      exact ⟨rfl, HBd.out, HB.out⟩
    · have hk : min (r.size : Int) 128 = ((min r.size 128 : Nat) : Int) := by omega
      obtain ⟨k, hkd⟩ : ∃ k, k = min r.size 128 := ⟨_, rfl⟩
      rw [← hkd] at hk
      have hk0 : 1 ≤ k := by omega
      have hk1 : k ≤ 128 := by omega
      have hk2 : k ≤ r.size := by omega
      have hrl : r.data.toList.length ≠ 0 := by simpa using hr
      have hq0 : r.toList.isEmpty = false := by rw [Lib.toList_data]; cases hd : r.data.toList with | nil => exact absurd (by rw [hd]; rfl) hrl | cons a b => rfl
      have HC : Hid ((k : Int) - 1 = ((UInt8.ofNat (k - 1)).toNat : Int)) := by unfold Hid; simp; omega
      have HKd := Lib.hid hkd
      have HRl := Lib.hid hrl
      clear hkd hrl
      have hBw := Nat.le_trans HBz.out HB.out.size
      go_wp2_with (first
        | (go_at_call 38; refine (pk_byte HBd.out (UInt8.ofNat (k - 1)) ((k : Int) - 1) HC.out (by omega) hBw).mono ?_; rintro e w2 ⟨rfl, hbd2, hb2, -⟩; have HB2 := Lib.hid hb2; have HBd2 := Lib.hid hbd2; clear hb2 hbd2)
        | (go_at_call 33; refine (pk_write HBd2.out _ (by rw [ByteArray.size_extract, List.length_append]; simp; omega) (Nat.le_trans hBw HB2.out.size) (by simp)).mono ?_; rintro e w3 ⟨rfl, hbd3, hb3, -⟩; have HB3 := Lib.hid hb3; have HBd3 := Lib.hid hbd3; clear hb3 hbd3))
      have e1 : (r.extract 0 k).data.toList = r.data.toList.take k := by simp [ByteArray.data_extract]
      have e2 : (r.extract k r.size).data.toList = r.data.toList.drop k := by
        simp [ByteArray.data_extract]
        exact List.take_of_length_le (by simp)
      refine ⟨⟨_, q ++ [UInt8.ofNat (k - 1)] ++ (r.extract 0 k).data.toList, rfl, ?_, ?_, HBd3.out, (HB.out.trans HB2.out).trans HB3.out⟩, ?_⟩
      · rw [e1, List.length_append, List.length_append, List.length_take, ByteArray.size_extract]; simp; omega
      · rw [e1, e2, ← HEr.out, litC_more HRl.out]
        have hl : r.data.toList.length = r.size := by simp
        rw [hl, ← HKd.out]
        have h1 : r.data.toList.take 128 = r.data.toList.take k := by
          rcases Nat.le_total r.size 128 with h | h
          · rw [List.take_of_length_le (by omega), List.take_of_length_le (by rw [HKd.out]; omega)]
          · rw [HKd.out, Nat.min_eq_right h]
        have h2 : r.data.toList.drop 128 = r.data.toList.drop k := by
          rcases Nat.le_total r.size 128 with h | h
          · rw [List.drop_of_length_le (by omega), List.drop_of_length_le (by rw [HKd.out]; omega)]
          · rw [HKd.out, Nat.min_eq_right h]
        rw [h1, h2]; simp
      · show (r.extract k r.size).size < r.size
        rw [ByteArray.size_extract]; omega
end Go.Proofs.Ytdibgloaknnfgaa.Pq
