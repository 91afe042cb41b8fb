/- The walks of check and Number. -/
import Derived.Test.YtcbnelklilamgaaDoorNumPlain
import Derived.Test.YtcbnelklilamgaaDoorLaid
import Derived.Test.YtcbnelklilamgaaDoorKit
import Derived.Lib.SmallJoins
import Derived.Lib.AppendIntMem
import Derived.Lib.ItoaMem
import Derived.WalkLawsBesides
import Derived.WalkSpells
import Derived.Lib.Hide
namespace Go.Proofs.YtcbnelklilamgaaDoor
open Go.RowKit Num Go.Lib Go.Joins
abbrev Tab10 (w : World) : Prop := Lib.TabIs Tryd.prog w "internal/strconv.uint64pow10" .u64 Lib.pow10Tab
/-- The string of a row of bytes. -/
def B (l : List UInt8) : ByteArray := ⟨l.toArray⟩
theorem B_size (l : List UInt8) : (B l).size = l.length := by simp [B, ByteArray.size]
theorem B_data (l : List UInt8) : (B l).data.toList = l := by simp [B]
theorem B_app (a b : List UInt8) : B a ++ B b = B (a ++ b) := by
  apply ByteArray.ext; simp [B, ByteArray.data_append]
theorem B_inj {a b : List UInt8} : B a = B b ↔ a = b := ⟨fun h => by rw [← B_data a, h, B_data], fun h => by rw [h]⟩
theorem B_self (s : ByteArray) : B s.data.toList = s := by cases s; simp [B]
theorem Tab10.later {w w' : World} (h : Tab10 w) (hb : Below w.heap.size w w') : Tab10 w' :=
  tab_stays (g := 3) (by kernel_rfl) h hb (Nat.le_refl _)
theorem val_step (s : ByteArray) (k : Nat) (h : k < s.size) : val (s.data.toList.take (k + 1)) % 97 = (val (s.data.toList.take k) % 97 * 10 + dv s[k]) % 97 := by
  rw [List.take_succ_eq_append_getElem (by simpa using h), val_append, val_one]
  have e : s.data.toList[k]'(by simpa using h) = s[k] := rfl
  rw [e]; simp; omega
theorem dig_at {s : ByteArray} (hd : Digs s.data.toList) (k : Nat) (h : k < s.size) : 48 ≤ s[k].toNat ∧ s[k].toNat ≤ 57 :=
  hd _ (by have : s[k] = s.data.toList[k]'(by simpa using h) := rfl
           rw [this]; exact List.getElem_mem _)
theorem check_any (s : ByteArray) (w : World) (hs : s.size ≤ 1000) (hd : Digs s.data.toList) :
    Calls Tryd.prog 34 #[.string s] w fun e w' => e = .returned (.int .i64 (chk (val s.data.toList) : Nat)) ∧ w = w' := by
  have HD := Lib.hid hd
  clear hd
  go_enter Tryd.func34, Tryd.ntmps34
  go_wp2
  go_loop [3, 4, 7] (fun vr _ vi => ∃ k : Nat, k ≤ s.size ∧ vi = .int .i64 k ∧ vr = .int .i64 ((val (s.data.toList.take k) % 97 : Nat) : Int)) (fun _ _ i => s.size - (intOf i).toNat)
  case atStart => exact ⟨0, Nat.zero_le _, rfl, rfl⟩
  case round =>
    obtain ⟨k, hk, rfl, rfl⟩ := hrel
    by_cases hlt : k < s.size
    · have HR := Lib.hid (val_step s k hlt)
      have hc := dig_at HD.out k hlt
      have hr97 : val (s.data.toList.take k) % 97 < 97 := Nat.mod_lt _ (by decide)
      have hu : Hid (dv s[k] = s[k].toNat - 48) := rfl
      generalize val (s.data.toList.take k) % 97 = r at *
      generalize hcc : s[k] = c at *
      obtain ⟨hc1, hc2⟩ := hc
      go_wp2
      go_round
      case rel => exact ⟨k + 1, by omega, by go_num, by rw [HR.out, hu.out]; go_num⟩
      case measure => simp [intOf]; omega
    · obtain rfl : k = s.size := by omega
      have HF : Hid (s.data.toList.take s.size = s.data.toList) := List.take_of_length_le (by simp)
      rw [HF.out]
      generalize hm : val s.data.toList = m at *
      have hch : Hid (chk m = 98 - m * 100 % 97) := rfl
      have hr97 : m % 97 < 97 := Nat.mod_lt _ (by decide)
      have hq : Hid ((m % 97) * 100 % 97 = m * 100 % 97) := by unfold Hid; omega
      generalize m % 97 = r at *
      go_wp2
      go_ret
      have h1 := hch.out
      have h2 := hq.out
      exact ⟨endInt (by omega), rfl⟩
end Go.Proofs.YtcbnelklilamgaaDoor
