/- The walk of the law on bursts: the flipped string's checksum differs. -/
import Derived.Test.YtdibgloaknnfgaaDoorLaw5
namespace Go.Proofs.YtdibgloaknnfgaaDoor
open Go.RowKit Crc
theorem bit_test (b : BitVec 32) (i : Nat) : ((bits .and .u32 (↑b.toNat / 2 ^ i) 1) == 1) = b.getLsbD i := by
  have hb := b.isLt
  have h1 : ((b.toNat : Int) / 2 ^ i) = ((b.toNat / 2 ^ i : Nat) : Int) := by simp
  have h2 := Nat.div_le_self b.toNat (2 ^ i)
  rw [h1, show (1 : Int) = ((1 : Nat) : Int) from rfl, u32_and_nat _ _ (by omega) (by omega), nat_mask1]
  unfold BitVec.getLsbD
  rw [Nat.testBit_eq_decide_div_mod_eq, Bool.eq_iff_iff, beq_iff_eq, decide_eq_true_iff]
  omega
theorem xor_flip (c : UInt8) (i : Nat) (hi : i < 8) : bits .xor .u8 ↑c.toNat (2 ^ i % 256) = ((c ^^^ UInt8.ofNat (2 ^ i)).toNat : Int) := by
  have hc := c.toNat_lt
  have h2 : 2 ^ i < 256 := Nat.lt_of_lt_of_le (Nat.pow_lt_pow_right (m := i) (n := 8) (by omega) (by omega)) (by omega)
  have e : ((2 : Int) ^ i % 256) = ((2 ^ i : Nat) : Int) := by
    rw [show (2 : Int) ^ i = ((2 ^ i : Nat) : Int) by simp]; generalize 2 ^ i = m at *; omega
  rw [e, u8_xor_nat _ _ (by omega) h2, UInt8.toNat_xor, UInt8.toNat_ofNat_of_lt' h2]
theorem law3 (s : ByteArray) (a : Int) (burst : BitVec 32) (w : World) (hT : Tab w) (hs : s.size ≤ 200000000000000) (h0 : 0 < s.size) (hb : burst.toNat ≠ 0) (hpos : 0 < w.heap.size) :
    Calls Tryd.prog 3 #[.string s, .int .i64 a, .int .u32 (burst.toNat : Int)] w fun e w' => e = .returned (.bool true) ∧ Below w.heap.size w w' := by
  have HT := Lib.hid hT
  clear hT
  have h1 : ((s.size : Int) == 0) = false := by rw [beq_eq_false_iff_ne]; omega
  have h2 : ((burst.toNat : Int) == 0) = false := by rw [beq_eq_false_iff_ne]; omega
  go_enter Tryd.func3, Tryd.ntmps3
  go_wp2_with fail
  refine (sums_any _ HT.out).mono ?_; rintro e w' ⟨rfl, rfl⟩
  go_wp2_with fail
  refine (within_any _ _ _ _ (by omega) (by omega) (by omega)).mono ?_; rintro e w' ⟨rfl, rfl⟩
  have hp0 := wi_lo a 0 (8 * s.size - 1) (by omega)
  have hp1 := wi_hi a 0 (8 * s.size - 1) (by omega)
  generalize wi a 0 (8 * s.size - 1) = p at *
  obtain ⟨pn, rfl⟩ := Int.eq_ofNat_of_zero_le hp0
  obtain ⟨cap, w1, hrun, hb1, hlt1, hrow1⟩ := run_bytes (P := Tryd.prog) w 9 25 5 s Tryd.underlying9 Tryd.underlying25 Tryd.underlying5
  have HR := Lib.hid hrow1
  clear hrow1
  go_wp2_with fail
  go_loopw [8, 9, 10, 28] (fun vc _ _ vi wr => ∃ i : Nat, i ≤ 32 ∧ vi = .int .i64 i ∧ vc = .bool (changedTo (8 * s.size) pn burst i) ∧ Below w.heap.size w wr ∧ w.heap.size < wr.heap.size ∧
    BRow wr w.heap.size (flipTo s.data.toList pn burst i)) (fun _ _ _ i _ => 32 - (intOf i).toNat)
  case atStart => exact ⟨0, by omega, rfl, rfl, hb1, hlt1, HR.out⟩
  case round =>
    obtain ⟨i, hi, rfl, rfl, hb, hlt, hrow⟩ := hrel
    have HB := Lib.hid hb
    have HW := Lib.hid hrow
    clear hb hrow HR hrun
    by_cases h32 : i < 32
    · have ht := bit_test burst i
      by_cases hc : burst.getLsbD i = true ∧ pn + i < 8 * s.size
      · obtain ⟨hc1, hc2⟩ := hc
        rw [hc1] at ht
        obtain ⟨k, hk⟩ : ∃ k, k = pn + i := ⟨_, rfl⟩
        have hkk : (pn : Int) + (i : Int) = (k : Int) := by omega
        have hk8 : k < 8 * s.size := by omega
        clear hk
        have hlen : (flipTo s.data.toList pn burst i).length = s.size := by rw [flipTo_length]; simp
        have hk1 : k / 8 < s.size := by omega
        have hcell := HW.out.at_ (i := k / 8) (by rw [hlen]; omega)
        have hfr := HW.out.free_ (i := k / 8) (by rw [hlen]; omega)
        generalize hcc : (flipTo s.data.toList pn burst i).getD (k / 8) 0 = c at *
        have HC := Lib.hid hcc
        have HL := Lib.hid hlen
        clear hcc hlen
        have hb0 : (0 : Int) ≤ (k : Int) / 8 := by omega
        have hb1 : (k : Int) / 8 < (s.size : Int) := by omega
        go_wp2
        go_region
        go_wp2
        go_roundw
        case rel =>
          have h3 := HW.out.put (k := k / 8) (by rw [HL.out]; omega) (c ^^^ UInt8.ofNat (2 ^ (k % 8)))
          rw [← xor_flip c (k % 8) (by omega)] at h3
          have hpk : pn + i = k := by omega
          have e1 : flipTo s.data.toList pn burst (i + 1) = (flipTo s.data.toList pn burst i).set (k / 8) (c ^^^ UInt8.ofNat (2 ^ (k % 8))) := by
            simp only [flipTo]; rw [if_pos ⟨hc1, by simp; omega⟩, hpk]; unfold Crc.flip; rw [HC.out]
          have e2 : changedTo (8 * s.size) pn burst (i + 1) = true := by simp only [changedTo]; rw [if_pos ⟨hc1, by omega⟩]
          exact ⟨i + 1, by omega, by go_num, by rw [e2], (HB.out.setCell (Nat.le_refl _) _).drew, by simpa [World.setCell] using hlt, by rw [e1]; exact h3.drew⟩
        case measure => simp [intOf]; omega
      · have e1 : Hid (flipTo s.data.toList pn burst (i + 1) = flipTo s.data.toList pn burst i) := by
          unfold Hid; simp only [flipTo]; rw [if_neg (by simpa using hc)]
        have e2 : Hid (changedTo (8 * s.size) pn burst (i + 1) = changedTo (8 * s.size) pn burst i) := by
          unfold Hid; simp only [changedTo]; rw [if_neg hc]
        cases hbit : burst.getLsbD i with
        | false =>
          rw [hbit] at ht
          clear hc hbit
          go_wp2
          go_roundw
          case rel => exact ⟨i + 1, by omega, by go_num, by rw [e2.out], HB.out, hlt, by rw [e1.out]; exact HW.out⟩
          case measure => simp [intOf]; omega
        | true =>
          rw [hbit] at ht
          have hk : 8 * (s.size : Int) ≤ (pn : Int) + (i : Int) := by
            have hnot : ¬ (pn + i < 8 * s.size) := fun h => hc ⟨hbit, h⟩
            omega
          clear hc hbit
          go_wp2
          go_roundw
          case rel => exact ⟨i + 1, by omega, by go_num, by rw [e2.out], HB.out, hlt, by rw [e1.out]; exact HW.out⟩
          case measure => simp [intOf]; omega
    · obtain rfl : i = 32 := by omega
      cases hch : changedTo (8 * s.size) pn burst 32 with
      | false =>
        go_wp2
        go_ret
        exact ⟨rfl, HB.out⟩
      | true =>
        have hne := law_bursts s.data.toList pn burst (by simpa using hch)
        have hlen : (flipTo s.data.toList pn burst 32).length = s.size := by rw [flipTo_length]; simp
        have hconv := run_convert_bytes_back (P := Tryd.prog) wr 25 9 5 ⟨w.heap.size, 0, none⟩ cap (flipTo s.data.toList pn burst 32) Tryd.underlying25 Tryd.underlying5 Tryd.underlying9
          (fun j hj => by
            rw [show (⟨w.heap.size, 0, none⟩ : Addr).add j = ⟨w.heap.size, j, none⟩ by unfold Addr.add; split <;> simp_all]
            rw [HW.out.at_ hj, List.getD_eq_getElem?_getD, List.getElem?_eq_getElem hj]; rfl)
        rw [hlen] at hconv
        have HN : Hid ((((sum (flipTo s.data.toList pn burst 32)).toNat : Int) != ((sum s.data.toList).toNat : Int)) = true) := by
          unfold Hid; rw [bne_iff_ne]; intro e; exact hne (BitVec.eq_of_toNat_eq (by omega))
        clear hch hne
        generalize flipTo s.data.toList pn burst 32 = t at *
        have HLn := Lib.hid hlen
        have HT2 : Hid (Tab wr) := fun j hj => (HB.out.cell (p := ⟨0, j, none⟩) hpos).trans (HT.out j hj)
        clear hlen
        go_wp2_with fail
        refine (sum_any _ _ ?_ HT2.out).mono ?_; (show t.toArray.size ≤ _; rw [List.size_toArray, HLn.out]; unfold maxLen; omega); rintro e w' ⟨rfl, rfl⟩
        go_wp2_with fail
        refine (sum_any _ _ ?_ HT2.out).mono ?_; (unfold maxLen; omega); rintro e w' ⟨rfl, rfl⟩
        have hN := HN.out
        go_wp2_with fail
        go_ret
        exact ⟨rfl, HB.out⟩
theorem tab_pos {w : World} (hT : Tab w) : 0 < w.heap.size := by
  rcases Nat.eq_zero_or_pos w.heap.size with h | h
  · have := hT 0 (by omega)
    simp [World.cell?, Array.getElem?_eq_none (show w.heap.size ≤ 0 by omega)] at this
  · exact h
theorem law3_any (s : ByteArray) (a : Int) (b : Nat) (w : World) (hT : Tab w) (hs : s.size ≤ 200000000000000) (hb : b < 4294967296) :
    Calls Tryd.prog 3 #[.string s, .int .i64 a, .int .u32 (b : Int)] w fun e w' => e = .returned (.bool true) ∧ Below w.heap.size w w' := by
  by_cases h0 : 0 < s.size
  · by_cases hb0 : b = 0
    · subst hb0
      have h1 : ((s.size : Int) == 0) = false := by rw [beq_eq_false_iff_ne]; omega
      have HT := Lib.hid hT
      clear hT
      go_enter Tryd.func3, Tryd.ntmps3
      go_wp2_with fail
      refine (sums_any _ HT.out).mono ?_; rintro e w' ⟨rfl, rfl⟩
      go_wp2_with fail
      go_ret
      exact ⟨rfl, Below.refl _ _⟩
    · have := law3 s a (BitVec.ofNat 32 b) w hT hs h0 (by rw [BitVec.toNat_ofNat, Nat.mod_eq_of_lt hb]; exact hb0) (tab_pos hT)
      rw [BitVec.toNat_ofNat, Nat.mod_eq_of_lt hb] at this
      exact this
  · have h1 : ((s.size : Int) == 0) = true := by rw [beq_iff_eq]; omega
    have HT := Lib.hid hT
    clear hT
    go_enter Tryd.func3, Tryd.ntmps3
    go_wp2_with fail
    refine (sums_any _ HT.out).mono ?_; rintro e w' ⟨rfl, rfl⟩
    go_wp2_with fail
    go_ret
    exact ⟨rfl, Below.refl _ _⟩
end Go.Proofs.YtdibgloaknnfgaaDoor
