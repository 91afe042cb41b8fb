/- The walk of Hex: the eight digits of a checksum. -/
import Derived.Test.YtdibgloaknnfgaaDoorLaw4
import Derived.Test.YtdibgloaknnfgaaDoorKit
namespace Go.Proofs.YtdibgloaknnfgaaDoor
open Go.RowKit Crc
def hexChar (d : Nat) : Nat := if d < 10 then 48 + d else 87 + d
def hexAt (n i : Nat) : Nat := hexChar (n / 2 ^ (28 - 4 * i) % 16)
def hexCells (n k : Nat) : List Value := (List.range 8).map fun i => .int .u8 (if i < k then (hexAt n i : Int) else 0)
theorem hexTab (d : Nat) (h : d < (⟨#[48, 49, 50, 51, 52, 53, 54, 55, 56, 57, 97, 98, 99, 100, 101, 102]⟩ : ByteArray).size) :
    ((⟨#[48, 49, 50, 51, 52, 53, 54, 55, 56, 57, 97, 98, 99, 100, 101, 102]⟩ : ByteArray)[d]).toNat = hexChar d :=
  (by decide : ∀ d : Fin 16, ((⟨#[48, 49, 50, 51, 52, 53, 54, 55, 56, 57, 97, 98, 99, 100, 101, 102]⟩ : ByteArray)[d.val]'(d.isLt)).toNat = hexChar d.val) ⟨d, h⟩
theorem hexDig (n k : Nat) (hn : n < 4294967296) : bits .and .u32 (↑n / 2 ^ (28 - 4 * k)) 15 = ((n / 2 ^ (28 - 4 * k) % 16 : Nat) : Int) := by
  have h1 : ((n : Int) / 2 ^ (28 - 4 * k)) = ((n / 2 ^ (28 - 4 * k) : Nat) : Int) := by simp
  have h2 := Nat.div_le_self n (2 ^ (28 - 4 * k))
  rw [h1, show (15 : Int) = ((15 : Nat) : Int) from rfl, u32_and_nat _ _ (by omega) (by omega), nat_mask4]
theorem hexCells_set (n k : Nat) (hk : k < 8) : (hexCells n k).toArray.setIfInBounds k (.int .u8 (hexAt n k : Int)) = (hexCells n (k + 1)).toArray := by
  apply Array.ext'
  rw [Array.toList_setIfInBounds]
  apply List.ext_getElem?
  intro i
  rw [List.getElem?_set]
  simp only [hexCells, List.getElem?_map, List.length_map, List.length_range]
  by_cases hi : k = i
  · subst hi; simp [hk]
  · rw [if_neg hi]
    by_cases h8 : i < 8
    · have : (i < k) ↔ (i < k + 1) := by omega
      simp [h8, this]
    · simp [h8]
theorem hexAt_lt (n i : Nat) : hexAt n i < 256 := by unfold hexAt hexChar; split <;> omega
def hexBytes (n : Nat) : List UInt8 := (List.range 8).map fun i => UInt8.ofNat (hexAt n i)
theorem hexBytes_cell (n j : Nat) (hj : j < (hexBytes n).length) : (hexCells n 8).toArray[j]? = some (.int .u8 (((hexBytes n)[j]).toNat : Int)) := by
  have h8 : j < 8 := by simpa [hexBytes] using hj
  simp only [hexCells, List.getElem?_toArray, List.getElem?_map, hexBytes, List.getElem_map, List.getElem_range, List.getElem?_range h8, Option.map_some, h8, if_true]
  rw [UInt8.toNat_ofNat_of_lt' (by simpa using hexAt_lt n j)]
theorem hex_any (n : Nat) (w : World) (hn : n < 4294967296) :
    Calls Tryd.prog 11 #[.int .u32 (n : Int)] w fun e w' => e = .returned (.string ⟨(hexBytes n).toArray⟩) ∧ Below w.heap.size w w' := by
  go_enter Tryd.func11, Tryd.ntmps11
  go_wp2
  go_loopw [4, 5] (fun _ vi wr => ∃ k : Nat, k ≤ 8 ∧ vi = .int .i64 k ∧ Below w.heap.size w wr ∧ Blk wr w.heap.size 38 (hexCells n k).toArray) (fun _ i _ => 8 - (intOf i).toNat)
  case atStart => exact ⟨0, by omega, rfl, (Below.refl _ _).alloc (Nat.le_refl _) _, Blk.new _ _ _⟩
  case round =>
    obtain ⟨k, hk, rfl, hb, hB⟩ := hrel
    by_cases hlt : k < 8
    · have hc := hB.cell k
      have hf := hB.frozen k
      rw [show (hexCells n k).toArray[k]? = some (.int .u8 0) by simp [hexCells, hlt]] at hc
      have HB := Lib.hid hB
      have hd := hexDig n k hn
      have hd16 : n / 2 ^ (28 - 4 * k) % 16 < 16 := by omega
      have HD : Hid (hexAt n k = hexChar (n / 2 ^ (28 - 4 * k) % 16)) := rfl
      generalize n / 2 ^ (28 - 4 * k) % 16 = d at *
      have HS := Lib.hid (hexCells_set n k hlt)
      clear hB
      go_wp2
      go_roundw
      case rel =>
        rw [hexTab]
        have h1 := HB.out.put k (.int .u8 (hexAt n k : Int))
        rw [HS.out, HD.out] at h1
        exact ⟨k + 1, by omega, by go_num, hb.setCell (Nat.le_refl _) _, h1⟩
      case measure => simp [intOf]; omega
    · obtain rfl : k = 8 := by omega
      have HB := Lib.hid hB
      have hconv := run_convert_bytes_back (P := Tryd.prog) wr 25 9 5 ⟨w.heap.size, 0, none⟩ 8 (hexBytes n) Tryd.underlying25 Tryd.underlying5 Tryd.underlying9
        (fun j hj => by rw [show (⟨w.heap.size, 0, none⟩ : Addr).add j = ⟨w.heap.size, j, none⟩ by unfold Addr.add; split <;> simp_all]; rw [hB.cell j]; exact hexBytes_cell n j hj)
      rw [show (hexBytes n).length = 8 by simp [hexBytes]] at hconv
      clear hB
      go_wp2
      go_ret
      exact ⟨rfl, hb⟩
end Go.Proofs.YtdibgloaknnfgaaDoor
