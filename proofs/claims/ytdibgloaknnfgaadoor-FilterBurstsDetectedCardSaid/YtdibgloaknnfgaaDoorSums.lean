/- The walks of Sum, Join and within: what each computes, for all arguments, in every world that holds the table of the checksum. -/
import Derived.Test.YtdibgloaknnfgaaDoorProduct
namespace Go.Proofs.YtdibgloaknnfgaaDoor
open Go.RowKit Crc
def wi (n low high : Int) : Int := low + (IntKind.u64.wrap n) % (high - low + 1)
theorem u64_nonneg (n : Int) : 0 ≤ IntKind.u64.wrap n := by
  simp [IntKind.wrap, IntKind.bits, IntKind.signed]; omega
theorem wi_lo (n low high : Int) (h1 : low ≤ high) : low ≤ wi n low high := by
  unfold wi; have := Int.emod_nonneg (IntKind.u64.wrap n) (b := high - low + 1) (by omega); omega
theorem wi_hi (n low high : Int) (h1 : low ≤ high) : wi n low high ≤ high := by
  unfold wi; have := Int.emod_lt_of_pos (IntKind.u64.wrap n) (b := high - low + 1) (by omega); omega
theorem within_any (n low high : Int) (w : World) (h0 : 0 ≤ low) (h1 : low ≤ high) (h2 : high < 4611686018427387904) :
    Calls Tryd.prog 7 #[.int .i64 n, .int .i64 low, .int .i64 high] w fun e w' => e = .returned (.int .i64 (wi n low high)) ∧ w = w' := by
  have hu := u64_nonneg n
  have e0 := Int.emod_nonneg (IntKind.u64.wrap n) (b := high - low + 1) (by omega)
  have e1 := Int.emod_lt_of_pos (IntKind.u64.wrap n) (b := high - low + 1) (by omega)
  go_enter Tryd.func7, Tryd.ntmps7
  go_wp2
  go_ret
  exact ⟨rfl, rfl⟩
def Tab (w : World) : Prop := ∀ i, i < 16 → w.cell? ⟨0, i, none⟩ = some (.int .u32 ((T.getD i 0 : Nat) : Int))
def ones : BitVec 32 := ~~~ 0#32
theorem T_lt (i : Nat) : T.getD i 0 < 4294967296 := by
  by_cases h : i < 16
  · exact (by decide : ∀ i : Fin 16, T.getD i.val 0 < 4294967296) ⟨i, h⟩
  · rw [List.getD_eq_getElem?_getD, List.getElem?_eq_none (by simpa [T] using h)]; simp
theorem step_N (r : BitVec 32) : bits .xor .u32 (↑r.toNat / 16) ((T.getD (r.toNat % 16) 0 : Nat) : Int) = ((N r).toNat : Int) := by
  have := r.isLt
  rw [show ((r.toNat : Int) / 16) = ((r.toNat / 16 : Nat) : Int) by omega, u32_xor_nat _ _ (by omega) (T_lt _)]
  unfold N
  rw [BitVec.toNat_xor, BitVec.toNat_ushiftRight, Nat.shiftRight_eq_div_pow, BitVec.toNat_ofNat, Nat.mod_eq_of_lt (T_lt _)]
theorem and_15 (r : BitVec 32) : bits .and .u32 ↑r.toNat 15 = ((r.toNat % 16 : Nat) : Int) := by
  have := r.isLt
  rw [show (15 : Int) = ((15 : Nat) : Int) from rfl, u32_and_nat _ _ (by simpa using this) (by omega), nat_mask4]
theorem xor_byte (r : BitVec 32) (c : UInt8) : bits .xor .u32 ↑r.toNat (↑c.toNat % 4294967296) = ((r ^^^ BitVec.ofNat 32 c.toNat).toNat : Int) := by
  have := r.isLt; have := c.toNat_lt
  rw [show ((c.toNat : Int) % 4294967296) = (c.toNat : Int) by omega, u32_xor_nat _ _ (by omega) (by omega), BitVec.toNat_xor, BitVec.toNat_ofNat, Nat.mod_eq_of_lt (by omega)]
theorem reg_take (s : ByteArray) (k : Nat) (h : k < s.size) (r : BitVec 32) : reg (s.data.toList.take (k + 1)) r = byteStep (reg (s.data.toList.take k) r) s[k] := by
  rw [List.take_succ_eq_append_getElem (by simpa using h), reg_append]; rfl

theorem not_max (r : BitVec 32) : bits .xor .u32 IntKind.u32.max ↑r.toNat = ((~~~ r).toNat : Int) := by
  have := r.isLt
  rw [show IntKind.u32.max = ((4294967295 : Nat) : Int) by decide, u32_xor_nat _ _ (by omega) (by omega)]
  congr 1
theorem ret_int {k : IntKind} {a b : Int} (h : a = b) : Ending.returned (.int k a) = .returned (.int k b) := by rw [h]
theorem sum_any (s : ByteArray) (w : World) (hs : s.size ≤ maxLen) (hT : Tab w) :
    Calls Tryd.prog 8 #[.string s] w fun e w' => e = .returned (.int .u32 ((sum s.data.toList).toNat : Int)) ∧ w = w' := by
  unfold maxLen at hs
  have HT := Lib.hid hT
  clear hT
  go_enter Tryd.func8, Tryd.ntmps8
  go_wp2
  go_loop [3, 4, 7] (fun vr _ vi => ∃ k : Nat, k ≤ s.size ∧ vi = .int .i64 k ∧ vr = .int .u32 ((reg (s.data.toList.take k) ones).toNat : Int)) (fun _ _ i => s.size - (intOf i).toNat)
  case atStart => exact ⟨0, Nat.zero_le _, rfl, rfl⟩
  case round =>
    obtain ⟨k, hk, rfl, rfl⟩ := hrel
    by_cases hlt : k < s.size
    · have HR := Lib.hid (reg_take s k hlt ones)
      generalize hr : reg (s.data.toList.take k) ones = r at *
      have f1 := xor_byte r s[k]
      obtain ⟨r1, h1⟩ : ∃ r1, r1 = r ^^^ BitVec.ofNat 32 s[k].toNat := ⟨_, rfl⟩
      rw [← h1] at f1
      have f2 := and_15 r1
      have f3 := HT.out (r1.toNat % 16) (by omega)
      have f4 := step_N r1
      obtain ⟨r2, h2⟩ : ∃ r2, r2 = N r1 := ⟨_, rfl⟩
      rw [← h2] at f4
      have g2 := and_15 r2
      have g3 := HT.out (r2.toNat % 16) (by omega)
      have g4 := step_N r2
      have HE : Hid (byteStep r s[k] = N r2) := by rw [h2, h1]; rfl
      have b1 : r1.toNat % 16 < 16 := by omega
      have b2 : r2.toNat % 16 < 16 := by omega
      generalize T.getD (r1.toNat % 16) 0 = t1 at *
      generalize T.getD (r2.toNat % 16) 0 = t2 at *
      generalize r1.toNat % 16 = j1 at *
      generalize r2.toNat % 16 = j2 at *
      generalize hn : N r2 = r3 at *
      clear h1 h2 hr hn
      go_wp2
      go_round
      case rel => exact ⟨k + 1, by omega, by go_num, by rw [HR.out, HE.out]⟩
      case measure => simp [intOf]; omega
    · obtain rfl : k = s.size := by omega
      have HF : Hid (bits .xor .u32 IntKind.u32.max ↑(reg (s.data.toList.take s.size) ones).toNat = ((sum s.data.toList).toNat : Int)) := by
        rw [not_max, List.take_of_length_le (by simp)]; rfl
      generalize (reg (s.data.toList.take s.size) ones).toNat = r at *
      go_wp2
      go_ret
      exact ⟨ret_int HF.out, rfl⟩
theorem xor32 (a b : BitVec 32) : bits .xor .u32 ↑a.toNat ↑b.toNat = ((a ^^^ b).toNat : Int) := by
  rw [BitVec.toNat_xor]; exact u32_xor_nat _ _ (by have := a.isLt; simpa using this) (by have := b.isLt; simpa using this)
theorem ofInt_i64 (a : Nat) (ha : a < 9223372036854775808) : (BitVec.ofInt 64 (a : Int)).toNat = a := by
  rw [BitVec.ofInt_natCast, BitVec.toNat_ofNat]; exact Nat.mod_eq_of_lt (by omega)
theorem and1_odd (n : Nat) (hn : n < 9223372036854775808) : bits .and .i64 (n : Int) 1 = ((n % 2 : Nat) : Int) := by
  show IntKind.i64.wrap ((BitVec.ofInt 64 (n : Int) &&& BitVec.ofInt 64 ((1 : Nat) : Int)).toNat : Int) = _
  rw [BitVec.toNat_and, ofInt_i64 n hn, ofInt_i64 1 (by omega), IntKind.wrap_i64, nat_mask1]
  omega
theorem product_sn (x : BitVec 32) (q : Nat) (w : World) :
    Calls Tryd.prog 12 #[.int .u32 (x.toNat : Int), .int .u32 ((Sn q one).toNat : Int)] w fun e w' => e = .returned (.int .u32 ((Sn q x).toNat : Int)) ∧ w = w' :=
  (product_any x _ w).mono fun _ _ ⟨he, hw⟩ => ⟨by rw [he, prod_Sn], hw⟩
theorem start_val : (8388608 : Int) = ((Sn 8 one).toNat : Int) := by decide
theorem join_any (a b : BitVec 32) (n : Nat) (w : World) (hn : n ≤ 1000000000000000000) :
    Calls Tryd.prog 9 #[.int .u32 (a.toNat : Int), .int .u32 (b.toNat : Int), .int .i64 (n : Int)] w fun e w' => e = .returned (.int .u32 ((join a b n).toNat : Int)) ∧ w = w' := by
  go_enter Tryd.func9, Tryd.ntmps9
  go_wp2
  go_loop [0, 2, 7] (fun va vn vp => ∃ (m q : Nat) (x : BitVec 32), m ≤ n ∧ Sn (q * m) x = Sn (8 * n) a ∧ va = .int .u32 (x.toNat : Int) ∧ vn = .int .i64 (m : Int) ∧ vp = .int .u32 ((Sn q one).toNat : Int)) (fun _ n _ => (intOf n).toNat)
  case atStart => exact ⟨n, 8, a, Nat.le_refl _, rfl, rfl, rfl, by rw [← start_val]⟩
  case round =>
    obtain ⟨m, q, x, hm, HX, rfl, rfl, rfl⟩ := hrel
    have HX := Lib.hid HX
    by_cases hlt : 0 < m
    · have h1 := and1_odd m (by omega)
      have HQ : Hid (Sn q (Sn q one) = Sn (q + q) one) := (Sn_add _ _ _).symm
      by_cases hp : m % 2 = 1
      · rw [hp] at h1
        have H1 : Hid (Sn ((q + q) * (m / 2)) (Sn q x) = Sn (8 * n) a) := by
          rw [← HX.out, ← Sn_add]; congr 1
          have : m = 2 * (m / 2) + 1 := by omega
          conv => rhs; rw [this]
          rw [Nat.mul_add, Nat.add_mul, Nat.mul_one, Nat.mul_left_comm, Nat.two_mul]; omega
        clear HX
        go_wp2_with (go_at_call 12; refine (product_sn _ q _).mono ?_; rintro e w' ⟨rfl, rfl⟩)
        go_round
        case rel => exact ⟨m / 2, q + q, Sn q x, by omega, H1.out, rfl, by go_num, by rw [HQ.out]⟩
        case measure => simp [intOf]; omega
      · have hp : m % 2 = 0 := by omega
        rw [hp] at h1
        have H1 : Hid (Sn ((q + q) * (m / 2)) x = Sn (8 * n) a) := by
          rw [← HX.out]; congr 1
          have : m = 2 * (m / 2) := by omega
          conv => rhs; rw [this]
          rw [Nat.add_mul, Nat.mul_left_comm, Nat.two_mul]
        clear HX
        go_wp2_with (go_at_call 12; refine (product_sn _ q _).mono ?_; rintro e w' ⟨rfl, rfl⟩)
        go_round
        case rel => exact ⟨m / 2, q + q, x, by omega, H1.out, rfl, by go_num, by rw [HQ.out]⟩
        case measure => simp [intOf]; omega
    · obtain rfl : m = 0 := by omega
      have HE : Hid (bits .xor .u32 ↑x.toNat ↑b.toNat = ((join a b n).toNat : Int)) := by
        rw [xor32]; unfold join; rw [← HX.out]; rfl
      clear HX
      go_wp2
      go_ret
      exact ⟨congrArg Ending.returned (congrArg (Value.int .u32) HE.out), rfl⟩
end Go.Proofs.YtdibgloaknnfgaaDoor
