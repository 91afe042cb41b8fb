/- The walk of the law on the marks of sections. -/
import Derived.Test.YtcnoehaemankiaaMark
namespace Go.Proofs.Ytcnoehaemankiaa
open Go.RowKit
def wi (n low high : Int) : Int := low + (IntKind.u64.wrap n) % (high - low + 1)
theorem u64_nonneg (n : Int) : 0 ≤ IntKind.u64.wrap n := by
  simp [IntKind.wrap, IntKind.bits, IntKind.signed]; omega
theorem wi_lo (n low high : Int) (h1 : low ≤ high) : low ≤ wi n low high := by
  unfold wi; have := Int.emod_nonneg (IntKind.u64.wrap n) (b := high - low + 1) (by omega); omega
theorem wi_hi (n low high : Int) (h1 : low ≤ high) : wi n low high ≤ high := by
  unfold wi; have := Int.emod_lt_of_pos (IntKind.u64.wrap n) (b := high - low + 1) (by omega); omega
theorem within_any (n low high : Int) (w : World) (h0 : 0 ≤ low) (h1 : low ≤ high) (h2 : high < 4611686018427387904) :
    Calls Try.prog 8 #[.int .i64 n, .int .i64 low, .int .i64 high] w fun e w' => e = .returned (.int .i64 (wi n low high)) ∧ w = w' := by
  have hu := u64_nonneg n
  have e0 := Int.emod_nonneg (IntKind.u64.wrap n) (b := high - low + 1) (by omega)
  have e1 := Int.emod_lt_of_pos (IntKind.u64.wrap n) (b := high - low + 1) (by omega)
  go_enter Try.func8, Try.ntmps8
  go_wp2
  go_ret
  exact ⟨rfl, rfl⟩
/-- The marks: each section has a row at least, and at most one more than the mean. -/
theorem mark_step (k s h : Int) (hs : 1 ≤ s) (hsh : s ≤ h) : 1 ≤ (k + 1) * h / s - k * h / s ∧ (k + 1) * h / s - k * h / s ≤ h / s + 1 := by
  have e : (k + 1) * h = k * h + h := by rw [Int.add_mul, Int.one_mul]
  rw [e]
  generalize k * h = x
  have a0 := Int.mul_ediv_add_emod x s
  have a1 := Int.emod_nonneg x (b := s) (by omega)
  have a2 := Int.emod_lt_of_pos x (b := s) (by omega)
  have b0 := Int.mul_ediv_add_emod (x + h) s
  have b1 := Int.emod_nonneg (x + h) (b := s) (by omega)
  have b2 := Int.emod_lt_of_pos (x + h) (b := s) (by omega)
  have c0 := Int.mul_ediv_add_emod h s
  have c1 := Int.emod_nonneg h (b := s) (by omega)
  have c2 := Int.emod_lt_of_pos h (b := s) (by omega)
  generalize x / s = p at *
  generalize (x + h) / s = q at *
  generalize h / s = r at *
  have l1 : s * p < s * q := by omega
  have l2 : s * q < s * (p + r + 2) := by rw [Int.mul_add, Int.mul_add]; omega
  have := Int.lt_of_mul_lt_mul_left l1 (by omega)
  have := Int.lt_of_mul_lt_mul_left l2 (by omega)
  omega
theorem marks (a b : Int) (w : World) :
    Calls Try.prog 3 #[.int .i64 a, .int .i64 b] w fun e w' => e = .returned (.bool true) ∧ Same w w' := by
  go_enter Try.func3, Try.ntmps3
  go_wp2_with fail
  refine (mark_any 1 3 10 _ (by omega) (by omega) (by omega) (by omega) (by omega)).mono ?_; rintro e w' ⟨rfl, n1, rfl⟩
  go_wp2_with fail
  refine (within_any _ _ _ _ (by omega) (by omega) (by omega)).mono ?_; rintro e w' ⟨rfl, rfl⟩
  have hs0 := wi_lo a 1 64 (by omega)
  have hs1 := wi_hi a 1 64 (by omega)
  generalize wi a 1 64 = s at *
  go_wp2_with fail
  refine (within_any _ _ _ _ (by omega) (by omega) (by omega)).mono ?_; rintro e w' ⟨rfl, rfl⟩
  have hh0 := wi_lo b s 1024 (by omega)
  have hh1 := wi_hi b s 1024 (by omega)
  generalize wi b s 1024 = h at *
  go_wp2_with fail
  go_loopw [8, 9, 10, 11, 12, 37, 40] (fun va _ _ _ _ vk _ wr => ∃ k : Int, 0 ≤ k ∧ k ≤ s ∧ vk = .int .i64 k ∧ va = .int .i64 (k * h / s) ∧ Same w wr) (fun _ _ _ _ _ k _ _ => (s - intOf k).toNat)
  case atStart => exact ⟨0, by omega, by omega, rfl, by simp, Same.drewN _ _⟩
  case round =>
    obtain ⟨k, hk0, hks, rfl, rfl, n, rfl⟩ := hrel
    have m0 : 0 ≤ k * h := Int.mul_nonneg hk0 (by omega)
    have m1 : k * h ≤ 64 * 1024 := Int.mul_le_mul (by omega) hh1 (by omega) (by omega)
    have d0 : 0 ≤ k * h / s := Int.ediv_nonneg m0 (by omega)
    have d1 : k * h / s ≤ 64 * 1024 := Int.le_trans (Int.ediv_le_self _ m0) m1
    by_cases hlt : k < s
    · obtain ⟨e1, e2⟩ := mark_step k s h (by omega) (by omega)
      have f0 : 0 ≤ h / s := Int.ediv_nonneg (by omega) (by omega)
      have f1 : h / s ≤ 1024 := Int.le_trans (Int.ediv_le_self _ (by omega)) hh1
      go_wp2_with fail
      refine (mark_any k s h _ (by omega) (by omega) (by omega) (by omega) (by omega)).mono ?_; rintro e w' ⟨rfl, n2, rfl⟩
      go_wp2_with fail
      go_roundw
      case rel => exact ⟨k + 1, by omega, by omega, rfl, valInt (by omega), Same.drewN _ _⟩
      case measure => simp only [intOf]; omega
    · obtain rfl : k = s := by omega
      have hz : Hid (k * h / k = h) := Int.mul_ediv_cancel_left h (by omega)
      go_wp2_with fail
      refine (mark_end k h _ (by omega) (by omega)).mono ?_; rintro e w' ⟨rfl, n2, rfl⟩
      rw [hz.out]
      go_wp2_with fail
      go_ret
      exact ⟨rfl, Same.drewN _ _⟩
end Go.Proofs.Ytcnoehaemankiaa
