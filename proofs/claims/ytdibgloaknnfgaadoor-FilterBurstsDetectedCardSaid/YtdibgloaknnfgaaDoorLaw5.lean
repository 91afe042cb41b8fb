/- The walk of the law on Hex and Unhex. -/
import Derived.Test.YtdibgloaknnfgaaDoorUnhex
namespace Go.Proofs.YtdibgloaknnfgaaDoor
open Go.RowKit Crc
theorem unhex_some (s : ByteArray) (v : Nat) (w : World) (h : unhex s.data.toList = some v) :
    Calls Tryd.prog 10 #[.string s] w fun e w' => e = .returned (.tuple #[.int .u32 (v : Int), .int .i64 0]) ∧ w = w' :=
  (unhex_any s w).mono fun _ _ ⟨he, hw⟩ => ⟨by rw [he, h]; rfl, hw⟩
theorem unhex_none (s : ByteArray) (w : World) (h : unhex s.data.toList = none) :
    Calls Tryd.prog 10 #[.string s] w fun e w' => e = .returned (.tuple #[.int .u32 0, .int .i64 5]) ∧ w = w' :=
  (unhex_any s w).mono fun _ _ ⟨he, hw⟩ => ⟨by rw [he, h]; rfl, hw⟩
theorem unhex_of_hex (n : Nat) (w : World) (hn : n < 4294967296) :
    Calls Tryd.prog 10 #[.string ⟨(hexBytes n).toArray⟩] w fun e w' => e = .returned (.tuple #[.int .u32 (n : Int), .int .i64 0]) ∧ w = w' :=
  unhex_some _ _ w (by simpa using unhex_hex n hn)
theorem law5 (n : Nat) (s : ByteArray) (w : World) (hT : Tab w) (hn : n < 4294967296) :
    Calls Tryd.prog 5 #[.int .u32 (n : Int), .string s] w fun e w' => e = .returned (.bool true) ∧ Below w.heap.size w w' := by
  have HT := Lib.hid hT
  clear hT
  cases hu : unhex s.data.toList with
  | none =>
    have HU := Lib.hid hu
    clear hu
    go_enter Tryd.func5, Tryd.ntmps5
    go_wp2_with fail
    refine (sums_any _ HT.out).mono ?_; rintro e w' ⟨rfl, rfl⟩
    go_wp2_with fail
    refine (hex_any n _ hn).mono ?_; rintro e w1 ⟨rfl, hb1⟩
    go_wp2_with fail
    refine (unhex_of_hex n _ hn).mono ?_; rintro e w' ⟨rfl, rfl⟩
    go_wp2_with fail
    refine (unhex_none s _ HU.out).mono ?_; rintro e w' ⟨rfl, rfl⟩
    go_wp2_with fail
    go_ret
    exact ⟨rfl, hb1⟩
  | some v =>
    have HV := Lib.hid (hex_unhex _ v hu)
    have hv := HV.out.1
    have HU := Lib.hid hu
    clear hu
    go_enter Tryd.func5, Tryd.ntmps5
    go_wp2_with fail
    refine (sums_any _ HT.out).mono ?_; rintro e w' ⟨rfl, rfl⟩
    go_wp2_with fail
    refine (hex_any n _ hn).mono ?_; rintro e w1 ⟨rfl, hb1⟩
    go_wp2_with fail
    refine (unhex_of_hex n _ hn).mono ?_; rintro e w' ⟨rfl, rfl⟩
    go_wp2_with fail
    refine (unhex_some s v _ HU.out).mono ?_; rintro e w' ⟨rfl, rfl⟩
    go_wp2_with fail
    refine (hex_any v _ hv).mono ?_; rintro e w2 ⟨rfl, hb2⟩
    go_wp2_with fail
    · go_ret
      exact ⟨rfl, hb1.trans (hb2.mono hb1.size)⟩
    · rename_i h
      exact absurd (by rw [HV.out.2, ByteArray.toList_eq]) h
end Go.Proofs.YtdibgloaknnfgaaDoor
