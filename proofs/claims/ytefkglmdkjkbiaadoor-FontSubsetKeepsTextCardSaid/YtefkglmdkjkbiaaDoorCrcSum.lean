/- The walk of filter.Sum: the checksum of a string, in every world that holds the table. -/
import Derived.Test.YtefkglmdkjkbiaaDoorProg
import Derived.Test.YtefkglmdkjkbiaaDoorCrcPlain
import Derived.Test.YtefkglmdkjkbiaaDoorKit
import Derived.Test.YtefkglmdkjkbiaaDoorClose
import Derived.WalkLawsBesides
import Derived.WalkSpells
import Derived.Lib.Hide
namespace Go.Proofs.YtefkglmdkjkbiaaDoor
open Go.RowKit Crc
def Tab (w : World) : Prop := ∀ i, i < 16 → w.cell? ⟨0, i, none⟩ = some (.int .u32 ((T.getD i 0 : Nat) : Int))
def ones : BitVec 32 := ~~~ 0#32
theorem T_lt (i : Nat) : T.getD i 0 < 4294967296 := by
  by_cases h : i < 16
  · exact (by decide : ∀ i : Fin 16, T.getD i.val 0 < 4294967296) ⟨i, h⟩
  · rw [List.getD_eq_getElem?_getD, List.getElem?_eq_none (by simpa [T] using h)]; simp
theorem step_N (r : BitVec 32) : bits .xor .u32 (↑r.toNat / 16) ((T.getD (r.toNat % 16) 0 : Nat) : Int) = ((N r).toNat : Int) := by
  have := r.isLt
  rw [show ((r.toNat : Int) / 16) = ((r.toNat / 16 : Nat) : Int) by omega, u32_xor_nat _ _ (by omega) (T_lt _)]
  unfold N
  rw [BitVec.toNat_xor, BitVec.toNat_ushiftRight, Nat.shiftRight_eq_div_pow, BitVec.toNat_ofNat, Nat.mod_eq_of_lt (T_lt _)]
theorem and_15 (r : BitVec 32) : bits .and .u32 ↑r.toNat 15 = ((r.toNat % 16 : Nat) : Int) := by
  have := r.isLt
  rw [show (15 : Int) = ((15 : Nat) : Int) from rfl, u32_and_nat _ _ (by simpa using this) (by omega), nat_mask4]
theorem xor_byte (r : BitVec 32) (c : UInt8) : bits .xor .u32 ↑r.toNat (↑c.toNat % 4294967296) = ((r ^^^ BitVec.ofNat 32 c.toNat).toNat : Int) := by
  have := r.isLt; have := c.toNat_lt
  rw [show ((c.toNat : Int) % 4294967296) = (c.toNat : Int) by omega, u32_xor_nat _ _ (by omega) (by omega), BitVec.toNat_xor, BitVec.toNat_ofNat, Nat.mod_eq_of_lt (by omega)]
theorem reg_take (s : ByteArray) (k : Nat) (h : k < s.size) (r : BitVec 32) : reg (s.data.toList.take (k + 1)) r = byteStep (reg (s.data.toList.take k) r) s[k] := by
  rw [List.take_succ_eq_append_getElem (by simpa using h), reg_append]; rfl

theorem not_max (r : BitVec 32) : bits .xor .u32 IntKind.u32.max ↑r.toNat = ((~~~ r).toNat : Int) := by
  have := r.isLt
  rw [show IntKind.u32.max = ((4294967295 : Nat) : Int) by decide, u32_xor_nat _ _ (by omega) (by omega)]
  congr 1
theorem ret_int {k : IntKind} {a b : Int} (h : a = b) : Ending.returned (.int k a) = .returned (.int k b) := by rw [h]
theorem sum_any (s : ByteArray) (w : World) (hs : s.size ≤ maxLen) (hT : Tab w) :
    Calls Tryd.prog 72 #[.string s] w fun e w' => e = .returned (.int .u32 ((sum s.data.toList).toNat : Int)) ∧ w = w' := by
  unfold maxLen at hs
  have HT := Lib.hid hT
  clear hT
  go_enter Tryd.func72, Tryd.ntmps72
  go_wp2
  go_loop [3, 4, 7] (fun vr _ vi => ∃ k : Nat, k ≤ s.size ∧ vi = .int .i64 k ∧ vr = .int .u32 ((reg (s.data.toList.take k) ones).toNat : Int)) (fun _ _ i => s.size - (intOf i).toNat)
  case atStart => exact ⟨0, Nat.zero_le _, rfl, rfl⟩
  case round =>
    obtain ⟨k, hk, rfl, rfl⟩ := hrel
    by_cases hlt : k < s.size
    · have HR := Lib.hid (reg_take s k hlt ones)
      generalize hr : reg (s.data.toList.take k) ones = r at *
      have f1 := xor_byte r s[k]
      obtain ⟨r1, h1⟩ : ∃ r1, r1 = r ^^^ BitVec.ofNat 32 s[k].toNat := ⟨_, rfl⟩
      rw [← h1] at f1
      have f2 := and_15 r1
      have f3 := HT.out (r1.toNat % 16) (by omega)
      have f4 := step_N r1
      obtain ⟨r2, h2⟩ : ∃ r2, r2 = N r1 := ⟨_, rfl⟩
      rw [← h2] at f4
      have g2 := and_15 r2
      have g3 := HT.out (r2.toNat % 16) (by omega)
      have g4 := step_N r2
      have HE : Hid (byteStep r s[k] = N r2) := by rw [h2, h1]; rfl
      have b1 : r1.toNat % 16 < 16 := by omega
      have b2 : r2.toNat % 16 < 16 := by omega
      generalize T.getD (r1.toNat % 16) 0 = t1 at *
      generalize T.getD (r2.toNat % 16) 0 = t2 at *
      generalize r1.toNat % 16 = j1 at *
      generalize r2.toNat % 16 = j2 at *
      generalize hn : N r2 = r3 at *
      clear h1 h2 hr hn
      go_wp2
      go_round
      case rel => exact ⟨k + 1, by omega, by go_num, by rw [HR.out, HE.out]⟩
      case measure => simp [intOf]; omega
    · obtain rfl : k = s.size := by omega
      have HF : Hid (bits .xor .u32 IntKind.u32.max ↑(reg (s.data.toList.take s.size) ones).toNat = ((sum s.data.toList).toNat : Int)) := by
        rw [not_max, List.take_of_length_le (by simp)]; rfl
      generalize (reg (s.data.toList.take s.size) ones).toNat = r at *
      go_wp2
      go_ret
      exact ⟨ret_int HF.out, rfl⟩
end Go.Proofs.YtefkglmdkjkbiaaDoor
