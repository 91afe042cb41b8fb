/- The walk of literals: bytes that are not copied, each 128 of them behind their number. -/
import Derived.Test.YtdibgloaknnfgaaTextEnc
namespace Go.Proofs.Ytdibgloaknnfgaa
open Go.RowKit
def lits (l : List UInt8) : List UInt8 := if _h : l.length = 0 then [] else UInt8.ofNat (min l.length 128 - 1) :: l.take 128 ++ lits (l.drop 128)
termination_by l.length
decreasing_by rw [List.length_drop]; omega
theorem lits_nil {l : List UInt8} (h : l.length = 0) : lits l = [] := by rw [lits, dif_pos h]
theorem lits_more {l : List UInt8} (h : l.length ≠ 0) : lits l = UInt8.ofNat (min l.length 128 - 1) :: l.take 128 ++ lits (l.drop 128) := by conv => lhs; rw [lits, dif_neg h]
/-- Codes by literals are at most one byte in 128 longer. -/
theorem lits_length (l : List UInt8) : (lits l).length = l.length + (l.length + 127) / 128 := by
  induction hn : l.length using Nat.strongRecOn generalizing l with
  | ind n ih =>
    by_cases h : l.length = 0
    · rw [lits_nil h]; simp; omega
    · have h1 := ih (l.drop 128).length (by rw [List.length_drop]; omega) (l.drop 128) rfl
      rw [List.length_drop] at h1
      rw [lits_more h, List.length_append, List.length_cons, List.length_take, h1]
      rcases Nat.le_total l.length 128 with h2 | h2
      · rw [Nat.min_eq_right h2]; omega
      · rw [Nat.min_eq_left h2]; omega
end Go.Proofs.Ytdibgloaknnfgaa
