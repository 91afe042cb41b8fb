/- The walks of sums and of the law on joined checksums: the call returns true and turns nothing. -/
import Derived.Test.YtdibgloaknnfgaaDoorSums
namespace Go.Proofs.YtdibgloaknnfgaaDoor
open Go.RowKit Crc
theorem sums_val : ((↑(sum [49, 50, 51, 52, 53, 54, 55, 56, 57]).toNat : Int) == 3421780262) = true := by decide +kernel
theorem sums_any (w : World) (hT : Tab w) : Calls Tryd.prog 6 #[] w fun e w' => e = .returned (.bool true) ∧ w = w' := by
  have HT := Lib.hid hT
  have hv := sums_val
  clear hT
  go_enter Tryd.func6, Tryd.ntmps6
  go_wp2_with (go_at_call 8; refine (sum_any _ _ (by decide) HT.out).mono ?_; rintro e w' ⟨rfl, rfl⟩)
  go_ret
  exact ⟨rfl, rfl⟩
theorem join_int (a b : BitVec 32) (n : Int) (w : World) (h0 : 0 ≤ n) (hn : n ≤ 1000000000000000000) :
    Calls Tryd.prog 9 #[.int .u32 (a.toNat : Int), .int .u32 (b.toNat : Int), .int .i64 n] w fun e w' => e = .returned (.int .u32 ((join a b n.toNat).toNat : Int)) ∧ w = w' := by
  obtain ⟨m, rfl⟩ := Int.eq_ofNat_of_zero_le h0
  rw [Int.toNat_natCast]
  exact join_any a b m w (by omega)
theorem law4 (a b c : ByteArray) (w : World) (hT : Tab w) (ha : a.size ≤ 200000000000000) (hb : b.size ≤ 200000000000000) (hc : c.size ≤ 200000000000000) :
    Calls Tryd.prog 4 #[.string a, .string b, .string c] w fun e w' => e = .returned (.bool true) ∧ w = w' := by
  have HT := Lib.hid hT
  have HL := Lib.hid (law_join a.data.toList b.data.toList c.data.toList)
  clear hT
  go_enter Tryd.func4, Tryd.ntmps4
  go_wp2_with fail
  refine (sums_any _ HT.out).mono ?_; rintro e w' ⟨rfl, rfl⟩
  go_wp2_with (first | (go_at_call 8; refine (sum_any _ _ ?_ HT.out).mono ?_; (unfold maxLen; simp; omega); rintro e w' ⟨rfl, rfl⟩) | (go_at_call 9; refine (join_int _ _ _ _ ?_ ?_).mono ?_; omega; omega; rintro e w' ⟨rfl, rfl⟩))
  · go_ret
    have h2 := HL.out.2
    simp only [Array.length_toList, ByteArray.size_data] at h2
    exact ⟨by simp [h2], rfl⟩
  · rename_i h
    have h1 := HL.out.1
    simp only [Array.length_toList, ByteArray.size_data, List.append_assoc] at h1
    exact absurd (congrArg (fun x : BitVec 32 => (x.toNat : Int)) h1) h
end Go.Proofs.YtdibgloaknnfgaaDoor
