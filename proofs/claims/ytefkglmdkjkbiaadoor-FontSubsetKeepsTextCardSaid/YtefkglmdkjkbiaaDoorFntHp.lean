/- The walks of HasPrefix and TrimPrefix. -/
import Derived.Test.YtefkglmdkjkbiaaDoorFntMem
import Derived.Lib.Strings
namespace Go.Proofs.YtefkglmdkjkbiaaDoor
open Go.RowKit Fnt
def hasP (s p : ByteArray) : Bool := decide (p.size ≤ s.size) && ((s.extract 0 p.size).toList == p.toList)
theorem hasP63 (s p : ByteArray) (w : World) :
    Calls Tryd.prog 63 #[.string s, .string p] w fun e w' => e = .returned (.bool (hasP s p)) ∧ w = w' := by
  by_cases hl : p.size ≤ s.size
  · have HH : Hid (hasP s p = ((s.extract 0 p.size).toList == p.toList)) := by unfold Hid hasP; rw [decide_eq_true hl]; rfl
    go_enter Tryd.func63, Tryd.ntmps63
    go_wp2
    go_ret
    exact ⟨endBool HH.out.symm, rfl⟩
  · have HH : Hid (hasP s p = false) := by unfold Hid hasP; rw [decide_eq_false hl]; rfl
    have hd : decide (p.size ≤ s.size) = false := decide_eq_false hl
    go_enter Tryd.func63, Tryd.ntmps63
    go_wp2
    go_ret
    exact ⟨endBool HH.out.symm, rfl⟩
theorem hasP33 (s p : ByteArray) (w : World) :
    Calls Tryd.prog 33 #[.string s, .string p] w fun e w' => e = .returned (.bool (hasP s p)) ∧ w = w' := by
  have HH := Lib.hid (hasP63 s p w)
  generalize hasP s p = b at *
  go_enter Tryd.func33, Tryd.ntmps33
  go_wp2_with fail
  refine HH.out.mono ?_
  rintro e w5 ⟨rfl, rfl⟩
  go_wp2
  go_ret
  exact ⟨rfl, rfl⟩
theorem trimP73 (s p : ByteArray) (w : World) :
    Calls Tryd.prog 73 #[.string s, .string p] w fun e w' => e = .returned (.string (if hasP s p then s.extract p.size s.size else s)) ∧ w = w' := by
  have HH := Lib.hid (hasP63 s p w)
  have hle : hasP s p = true → p.size ≤ s.size := fun h => by
    unfold hasP at h; simp only [Bool.and_eq_true, decide_eq_true_eq] at h; exact h.1
  cases hb : hasP s p with
  | true =>
    have hl := hle hb
    rw [hb] at HH
    clear hle hb
    go_enter Tryd.func73, Tryd.ntmps73
    go_wp2_with fail
    refine HH.out.mono ?_
    rintro e w5 ⟨rfl, rfl⟩
    go_wp2
    go_ret
    exact ⟨rfl, rfl⟩
  | false =>
    rw [hb] at HH
    clear hle hb
    go_enter Tryd.func73, Tryd.ntmps73
    go_wp2_with fail
    refine HH.out.mono ?_
    rintro e w5 ⟨rfl, rfl⟩
    go_wp2
    go_ret
    exact ⟨rfl, rfl⟩
theorem trimP38 (s p : ByteArray) (w : World) :
    Calls Tryd.prog 38 #[.string s, .string p] w fun e w' => e = .returned (.string (if hasP s p then s.extract p.size s.size else s)) ∧ w = w' := by
  have HH := Lib.hid (trimP73 s p w)
  generalize (if hasP s p then s.extract p.size s.size else s) = b at *
  go_enter Tryd.func38, Tryd.ntmps38
  go_wp2_with fail
  refine HH.out.mono ?_
  rintro e w5 ⟨rfl, rfl⟩
  go_wp2
  go_ret
  exact ⟨rfl, rfl⟩
theorem hasP_append (p r : List UInt8) : hasP ⟨(p ++ r).toArray⟩ ⟨p.toArray⟩ = true := by
  unfold hasP
  rw [Bool.and_eq_true]
  refine ⟨by simp [ByteArray.size], ?_⟩
  rw [beq_iff_eq, Lib.toList_data, Lib.toList_data]
  simp [ByteArray.data_extract, ByteArray.size]
end Go.Proofs.YtefkglmdkjkbiaaDoor
