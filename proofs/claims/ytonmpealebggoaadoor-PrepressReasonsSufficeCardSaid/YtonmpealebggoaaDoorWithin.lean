/- The walk of within: a number brought into a range. -/
import Derived.Test.YtonmpealebggoaaDoorProg
import Derived.Test.YtonmpealebggoaaDoorKit
namespace Go.Proofs.YtonmpealebggoaaDoor
open Go.RowKit
def wi (n low high : Int) : Int := low + (IntKind.u64.wrap n) % (high - low + 1)
theorem u64_nonneg (n : Int) : 0 ≤ IntKind.u64.wrap n := by
  simp [IntKind.wrap, IntKind.bits, IntKind.signed]; omega
theorem wi_lo (n low high : Int) (h1 : low ≤ high) : low ≤ wi n low high := by
  unfold wi; have := Int.emod_nonneg (IntKind.u64.wrap n) (b := high - low + 1) (by omega); omega
theorem wi_hi (n low high : Int) (h1 : low ≤ high) : wi n low high ≤ high := by
  unfold wi; have := Int.emod_lt_of_pos (IntKind.u64.wrap n) (b := high - low + 1) (by omega); omega
theorem within_any (n low high : Int) (w : World) (h0 : 0 ≤ low) (h1 : low ≤ high) (h2 : high < 4611686018427387904) :
    Calls Tryd.prog 14 #[.int .i64 n, .int .i64 low, .int .i64 high] w fun e w' => e = .returned (.int .i64 (wi n low high)) ∧ w = w' := by
  have hu := u64_nonneg n
  have e0 := Int.emod_nonneg (IntKind.u64.wrap n) (b := high - low + 1) (by omega)
  have e1 := Int.emod_lt_of_pos (IntKind.u64.wrap n) (b := high - low + 1) (by omega)
  go_enter Tryd.func14, Tryd.ntmps14
  go_wp2
  go_ret
  exact ⟨rfl, rfl⟩
/-- The result, of which the range alone is told. -/
theorem within_range (n low high : Int) (w : World) (h0 : 0 ≤ low) (h1 : low ≤ high) (h2 : high < 4611686018427387904) :
    Calls Tryd.prog 14 #[.int .i64 n, .int .i64 low, .int .i64 high] w fun e w' => ∃ r : Int, low ≤ r ∧ r ≤ high ∧ e = .returned (.int .i64 r) ∧ w = w' :=
  (within_any n low high w h0 h1 h2).mono fun _ _ ⟨he, hw⟩ => ⟨_, wi_lo n low high h1, wi_hi n low high h1, he, hw⟩
end Go.Proofs.YtonmpealebggoaaDoor
