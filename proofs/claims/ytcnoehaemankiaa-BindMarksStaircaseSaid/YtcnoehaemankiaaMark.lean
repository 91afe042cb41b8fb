/- The walk of Mark. -/
import Derived.Test.YtcnoehaemankiaaProg
import Derived.Test.YtcnoehaemankiaaKit
import Derived.Deep.QuietTactic
import Derived.BigQuiet
namespace Go.Proofs.Ytcnoehaemankiaa
open Go.RowKit
theorem mark_any (k s h : Int) (w : World) (hk : 0 ≤ k) (hks : k < s) (hs : s ≤ 64) (hsh : s ≤ h) (hh : h ≤ 1024) :
    Calls Try.prog 7 #[.int .i64 k, .int .i64 s, .int .i64 h] w fun e w' => e = .returned (.tuple #[.int .i64 (k * h / s), .int .i64 ((k + 1) * h / s - k * h / s), .int .i64 0]) ∧ Same w w' := by
  have m0 : 0 ≤ k * h := Int.mul_nonneg hk (by omega)
  have m1 : k * h ≤ 64 * 1024 := Int.mul_le_mul (by omega) hh (by omega) (by omega)
  have m2 : 0 ≤ (k + 1) * h := Int.mul_nonneg (by omega) (by omega)
  have m3 : (k + 1) * h ≤ 64 * 1024 := Int.mul_le_mul (by omega) hh (by omega) (by omega)
  have d0 : 0 ≤ k * h / s := Int.ediv_nonneg m0 (by omega)
  have d1 : k * h / s ≤ 64 * 1024 := Int.le_trans (Int.ediv_le_self _ m0) m1
  have d2 : 0 ≤ (k + 1) * h / s := Int.ediv_nonneg m2 (by omega)
  have d3 : (k + 1) * h / s ≤ 64 * 1024 := Int.le_trans (Int.ediv_le_self _ m2) m3
  go_enter Try.func7, Try.ntmps7
  go_wp2
  go_quiet (fail)
  go_wp2
  go_ret3
  exact ⟨rfl, Same.drewN _ _⟩
theorem mark_end (s h : Int) (w : World) (hs0 : 1 ≤ s) (hs : s ≤ 64) :
    Calls Try.prog 7 #[.int .i64 s, .int .i64 s, .int .i64 h] w fun e w' => e = .returned (.tuple #[.int .i64 0, .int .i64 0, .int .i64 3]) ∧ Same w w' := by
  go_enter Try.func7, Try.ntmps7
  go_wp2
  go_ret3
  exact ⟨rfl, Same.refl _⟩
end Go.Proofs.Ytcnoehaemankiaa
