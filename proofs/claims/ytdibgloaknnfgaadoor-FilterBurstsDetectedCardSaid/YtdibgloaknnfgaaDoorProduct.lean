/- The walk of product: the product of two polynomials modulo the generator, for all arguments and worlds. -/
import Derived.Test.YtdibgloaknnfgaaDoorProg
import Derived.Test.YtdibgloaknnfgaaDoorPlain
import Derived.WalkKit
import Derived.WalkLawsBesides
import Derived.WalkSpells
import Derived.Lib.Hide
namespace Go.Proofs.YtdibgloaknnfgaaDoor
open Go.RowKit Crc

theorem toNat_if (c : Bool) (x : BitVec 32) : (if c then x else 0#32).toNat = if c then x.toNat else 0 := by cases c <;> rfl

theorem step_S (x : BitVec 32) : bits .xor .u32 (↑x.toNat / 2) (bits .and .u32 (-bits .and .u32 ↑x.toNat 1 % 4294967296) 3988292384) = ((S x).toNat : Int) := by
  have hx := x.isLt
  have h1 : bits .and .u32 ↑x.toNat 1 = ((x.toNat % 2 : Nat) : Int) := by
    rw [show (1 : Int) = ((1 : Nat) : Int) from rfl, u32_and_nat _ _ (by simpa using hx) (by omega), nat_mask1]
  have h2 : ((x.toNat : Int) / 2) = ((x.toNat / 2 : Nat) : Int) := by omega
  have hl : x.getLsbD 0 = decide (x.toNat % 2 = 1) := by simp [BitVec.getLsbD, Nat.testBit_zero]
  rw [h1, h2]
  unfold S
  rw [hl, BitVec.toNat_xor, BitVec.toNat_ushiftRight, Nat.shiftRight_eq_div_pow]
  by_cases h : x.toNat % 2 = 1
  · rw [h]
    rw [show (-((1 : Nat) : Int)) % 4294967296 = ((4294967295 : Nat) : Int) by decide, show (3988292384 : Int) = ((3988292384 : Nat) : Int) from rfl,
      u32_and_nat _ _ (by omega) (by omega), u32_xor_nat _ _ (by omega) (by decide)]
    rfl
  · have h0 : x.toNat % 2 = 0 := by omega
    rw [h0]
    rw [show (-((0 : Nat) : Int)) % 4294967296 = ((0 : Nat) : Int) by decide, show (3988292384 : Int) = ((3988292384 : Nat) : Int) from rfl,
      u32_and_nat _ _ (by omega) (by omega), u32_xor_nat _ _ (by omega) (by decide)]
    rfl

def mbit (k : Nat) : Int := ((2147483648 / 2 ^ k : Nat) : Int)
theorem mbit_half (k : Nat) : mbit k / 2 = mbit (k + 1) := by
  unfold mbit; rw [Nat.pow_succ, ← Nat.div_div_eq_div_mul]; omega
theorem mbit_pow (k : Nat) (hk : k < 32) : mbit k = ((2 ^ (31 - k) : Nat) : Int) := by
  unfold mbit; congr 1
  have : (2147483648 : Nat) = 2 ^ (31 - k) * 2 ^ k := by rw [← Nat.pow_add]; rw [show 31 - k + k = 31 by omega]
  rw [this, Nat.mul_div_cancel _ (Nat.pow_pos (by omega))]
theorem mbit_zero : mbit 32 = 0 := by decide
theorem mbit_nonneg (k : Nat) : 0 ≤ mbit k := Int.natCast_nonneg _
theorem mbit_le (k : Nat) : mbit k ≤ 2147483648 := by unfold mbit; have := Nat.div_le_self 2147483648 (2 ^ k); omega
theorem mbit_pos (k : Nat) (hk : k < 32) : 0 < mbit k := by rw [mbit_pow k hk]; have := Nat.pow_pos (n := 31 - k) (show 0 < 2 by omega); omega
theorem and_mbit (a : BitVec 32) (k : Nat) (hk : k < 32) : (bits .and .u32 ↑a.toNat (mbit k) != 0) = a.getLsbD (31 - k) := by
  have ha := a.isLt
  have h2 : 2 ^ (31 - k) < 4294967296 := Nat.lt_of_lt_of_le (Nat.pow_lt_pow_right (m := 31 - k) (n := 32) (by omega) (by omega)) (by omega)
  rw [mbit_pow k hk, u32_and_nat _ _ (by simpa using ha) h2, nat_bit]
  have hp := Nat.pow_pos (n := 31 - k) (show 0 < 2 by omega)
  have e : a.getLsbD (31 - k) = decide (a.toNat / 2 ^ (31 - k) % 2 = 1) := by
    unfold BitVec.getLsbD; rw [Nat.testBit_eq_decide_div_mod_eq]
  rw [e, Bool.eq_iff_iff]
  have h3 : a.toNat / 2 ^ (31 - k) % 2 = 0 ∨ a.toNat / 2 ^ (31 - k) % 2 = 1 := by omega
  rcases h3 with h3 | h3 <;> rw [h3]
  · simp
  · simp only [Nat.one_mul, bne_iff_ne, ne_eq, decide_true, iff_true]; omega

theorem product_any (a b : BitVec 32) (w : World) :
    Calls Tryd.prog 12 #[.int .u32 (a.toNat : Int), .int .u32 (b.toNat : Int)] w fun e w' => e = .returned (.int .u32 ((prod a b).toNat : Int)) ∧ w = w' := by
  go_enter Tryd.func12, Tryd.ntmps12
  go_wp2
  go_loop [1, 5, 6] (fun vb vp vm => ∃ k : Nat, k ≤ 32 ∧ vb = .int .u32 ((Sn k b).toNat : Int) ∧ vp = .int .u32 ((prodTo k a b).toNat : Int) ∧ vm = .int .u32 (mbit k)) (fun _ _ m => (intOf m).toNat)
  case atStart => exact ⟨0, by omega, rfl, rfl, rfl⟩
  case round =>
    obtain ⟨k, hk, rfl, rfl, rfl⟩ := hrel
    have m0 := mbit_nonneg k
    have m1 := mbit_le k
    by_cases hlt : k < 32
    · have mp := mbit_pos k hlt
      have ht := and_mbit a k hlt
      have HS := Lib.hid (step_S (Sn k b))
      have HM := Lib.hid (mbit_half k)
      have HP : Hid (bits .xor .u32 ↑(prodTo k a b).toNat ↑(Sn k b).toNat = ((prodTo k a b ^^^ Sn k b).toNat : Int)) := by
        rw [BitVec.toNat_xor]; exact u32_xor_nat _ _ (by have := (prodTo k a b).isLt; simpa using this) (by have := (Sn k b).isLt; simpa using this)
      cases hb : a.getLsbD (31 - k)
      all_goals
        rw [hb] at ht
        have HB := Lib.hid hb
        clear hb
        go_wp2
        go_round
        case rel => exact ⟨k + 1, by omega, by rw [HS.out, Sn_succ], by first | (rw [show prodTo (k + 1) a b = prodTo k a b ^^^ Sn k b by simp [prodTo, HB.out], HP.out]) | (rw [show prodTo (k + 1) a b = prodTo k a b by simp [prodTo, HB.out]]), by rw [HM.out]⟩
        case measure => simp only [intOf]; rw [HM.out]; have := mbit_half k; omega
    · obtain rfl : k = 32 := by omega
      have mz := mbit_zero
      go_wp2
      go_ret
      exact ⟨rfl, rfl⟩
end Go.Proofs.YtdibgloaknnfgaaDoor
