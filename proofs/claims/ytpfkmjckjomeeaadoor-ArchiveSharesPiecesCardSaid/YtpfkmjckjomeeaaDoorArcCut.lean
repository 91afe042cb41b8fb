/- The walks of cut and Cuts. -/
import Derived.Test.YtpfkmjckjomeeaaDoorArcSum
import Derived.Test.YtpfkmjckjomeeaaDoorArcStore
import Derived.Deep.DeepCutAuto
import Derived.Deep.QuietTactic
import Derived.BigQuiet
import Derived.Deep.DeepMust
import Derived.RegionTactic
import Derived.Deep.RegionHeld3
import Derived.Deep.RegionLaw
import Derived.IntWalk
namespace Go.Proofs.YtpfkmjckjomeeaaDoor
open Go.RowKit Arc
theorem dropTo_bd (k : Nat) : 0 ≤ dropTo k ∧ dropTo k < 4294967296 := by
  cases k with
  | zero => decide
  | succ k => unfold dropTo; omega
theorem hashTo_bd (l : List UInt8) (k : Nat) : 0 ≤ hashTo l k ∧ hashTo l k < 4294967296 := by
  cases k with
  | zero => simp [hashTo]
  | succ k => unfold hashTo; dsimp only; split <;> omega
theorem getD_byte (s : ByteArray) {i : Nat} (h : i < s.size) : (s.data.toList.getD i 0) = s[i] := by
  rw [List.getD_eq_getElem?_getD, List.getElem?_eq_getElem (by simpa using h)]; rfl
theorem hash_late (s : ByteArray) {i : Nat} (h : i < s.size) (h16 : 16 ≤ i) : ((hashTo s.data.toList i * 31 + (s[i].toNat : Int) + 1) % 4294967296 - dropTo 16 * (((s[i - 16]'(by omega)).toNat : Int) + 1) % 4294967296) % 4294967296 = hashTo s.data.toList (i + 1) := by
  conv => rhs; unfold hashTo
  dsimp only
  rw [if_pos h16, getD_byte s h, getD_byte s (by omega : i - 16 < s.size)]
theorem hash_soon (s : ByteArray) {i : Nat} (h : i < s.size) (h16 : ¬ 16 ≤ i) : (hashTo s.data.toList i * 31 + (s[i].toNat : Int) + 1) % 4294967296 = hashTo s.data.toList (i + 1) := by
  conv => rhs; unfold hashTo
  dsimp only
  rw [if_neg h16, getD_byte s h]
theorem cut_go {s : ByteArray} {i : Nat} (h : i < s.size) (hs : stop s.data.toList (i + 1) = false) (hc : cutTo s.data.toList (s.size - i) i = cutN s.data.toList) : cutTo s.data.toList (s.size - (i + 1)) (i + 1) = cutN s.data.toList := by
  rw [show s.size - i = (s.size - (i + 1)) + 1 by omega] at hc
  unfold cutTo at hc
  rw [hs] at hc; exact hc
theorem cut_here {s : ByteArray} {i : Nat} (h : i < s.size) (hs : stop s.data.toList (i + 1) = true) (hc : cutTo s.data.toList (s.size - i) i = cutN s.data.toList) : cutN s.data.toList = i + 1 := by
  rw [show s.size - i = (s.size - (i + 1)) + 1 by omega] at hc
  unfold cutTo at hc
  rw [hs] at hc; exact hc.symm
set_option maxRecDepth 100000 in
set_option maxHeartbeats 4000000 in
theorem cut_any (s : ByteArray) (w : World) (hs : s.size ≤ 16384) :
    Calls Tryd.prog 23 #[.string s] w fun e w' => e = .returned (.int .i64 (cutN s.data.toList : Nat)) ∧ w = w' := by
  go_enter Tryd.func23, Tryd.ntmps23
  go_wp2
  go_loop [4, 6] (fun v4 v6 => ∃ k : Nat, k ≤ 16 ∧ v6 = .int .i64 (k : Int) ∧ v4 = .int .u32 (dropTo k)) (fun _ v6 => 16 - (intOf v6).toNat)
  case atStart => exact ⟨0, by omega, rfl, rfl⟩
  case round =>
    obtain ⟨k, hk, rfl, rfl⟩ := hrel
    by_cases hlt : k < 16
    · go_wp2
      go_round
      case rel => exact ⟨k + 1, by omega, by go_num, rfl⟩
      case measure => simp [intOf]; omega
    · obtain rfl : k = 16 := by omega
      generalize hD : dropTo 16 = D at *
      have HD := Lib.hid hD
      clear hD
      go_wp2
      go_loop [3, 13] (fun v3 v13 => ∃ i : Nat, i ≤ s.size ∧ v13 = .int .i64 (i : Int) ∧ v3 = .int .u32 (hashTo s.data.toList i) ∧ Hid (cutTo s.data.toList (s.size - i) i = cutN s.data.toList)) (fun _ v13 => s.size - (intOf v13).toNat)
      case atStart => exact ⟨0, by omega, rfl, rfl, by unfold Hid cutN; rw [Array.length_toList]; rfl⟩
      case round =>
        obtain ⟨i, hi, rfl, rfl, hc⟩ := hrel
        have hb := hashTo_bd s.data.toList i
        by_cases hlt : i < s.size
        · generalize hhE : hashTo s.data.toList i = h at *
          have HS : Hid (∀ b, stop s.data.toList (i + 1) = b → b = (decide (256 ≤ i + 1) || (decide (32 ≤ i + 1) && (hashTo s.data.toList (i + 1) / 67108864 == 0)))) := fun b hb => hb.symm
          have hb2 := hashTo_bd s.data.toList (i + 1)
          have HL : Hid (∀ h16 : 16 ≤ i, ((h * 31 + (s[i].toNat : Int) + 1) % 4294967296 - D * (((s[i - 16]'(by omega)).toNat : Int) + 1) % 4294967296) % 4294967296 = hashTo s.data.toList (i + 1)) := fun h16 => by rw [← hhE, ← HD.out]; exact hash_late s hlt h16
          have HN : Hid (¬ 16 ≤ i → (h * 31 + (s[i].toNat : Int) + 1) % 4294967296 = hashTo s.data.toList (i + 1)) := fun h16 => by rw [← hhE]; exact hash_soon s hlt h16
          generalize hhe : hashTo s.data.toList (i + 1) = h2 at *
          have HHE := Lib.hid hhe
          clear hhE hhe
          go_upto_if 25 with (fail)
          go_cut [3] (fun v3 wx => v3 = .int .u32 h2 ∧ wx = w)
          case first =>
            by_cases h16 : 16 ≤ i
            · have t16 : decide ((i : Int) ≥ 16) = true := decide_eq_true (by omega)
              have HL2 := Lib.hid (HL.out h16)
              go_wp2
              go_meet
              refine ⟨?_, rfl⟩
              rw [← HL2.out]
              have hq := (s[i - 16]'(by omega)).toNat_lt
              rw [show (((s[i - 16]'(by omega)).toNat : Int) + 1) % 4294967296 = ((s[i - 16]'(by omega)).toNat : Int) + 1 from by omega]
            · have t16 : decide ((i : Int) ≥ 16) = false := decide_eq_false (by omega)
              have HN2 := Lib.hid (HN.out h16)
              go_wp2
              go_meet
              exact ⟨by rw [← HN2.out], rfl⟩
          case rest =>
          obtain ⟨rfl, rfl⟩ := hcut
          have hx : (i : Int) ≤ 16384 := by omega
          by_cases hA : 256 ≤ i + 1
          · have hst : stop s.data.toList (i + 1) = true := by have := HS.out _ rfl; rw [this, decide_eq_true hA]; simp
            have HH := Lib.hid (cut_here hlt hst hc.out)
            have tA : decide ((i : Int) + 1 ≥ 256) = true := decide_eq_true (by omega)
            have tA2 : decide ((256 : Int) ≤ (i : Int) + 1) = true := decide_eq_true (by omega)
            clear hst
            go_wp2
            go_ret
            exact ⟨by rw [HH.out]; rfl, rfl⟩
          · have tA : decide ((i : Int) + 1 ≥ 256) = false := decide_eq_false (by omega)
            have tA2 : decide ((256 : Int) ≤ (i : Int) + 1) = false := decide_eq_false (by omega)
            by_cases hB : 32 ≤ i + 1
            · have tB : decide ((i : Int) + 1 ≥ 32) = true := decide_eq_true (by omega)
              have tB2 : decide ((32 : Int) ≤ (i : Int) + 1) = true := decide_eq_true (by omega)
              by_cases hC : h2 / 67108864 = 0
              · have tC : (h2 / 67108864 == 0) = true := by rw [hC]; rfl
                have hst : stop s.data.toList (i + 1) = true := by have := HS.out _ rfl; rw [this, decide_eq_true hB, tC]; simp
                have HH := Lib.hid (cut_here hlt hst hc.out)
                clear hst hC
                go_wp2
                go_ret
                exact ⟨by rw [HH.out]; rfl, rfl⟩
              · have tC : (h2 / 67108864 == 0) = false := by simpa using hC
                have hst : stop s.data.toList (i + 1) = false := by have := HS.out _ rfl; rw [this, decide_eq_false hA, tC]; simp
                have HH := Lib.hid (cut_go hlt hst hc.out)
                clear hst hC
                go_wp2
                go_round
                case rel => exact ⟨i + 1, by omega, by go_num, by rw [HHE.out], HH⟩
                case measure => simp [intOf]; omega
            · have tB : decide ((i : Int) + 1 ≥ 32) = false := decide_eq_false (by omega)
              have tB2 : decide ((32 : Int) ≤ (i : Int) + 1) = false := decide_eq_false (by omega)
              have hst : stop s.data.toList (i + 1) = false := by have := HS.out _ rfl; rw [this, decide_eq_false hA, decide_eq_false hB]; simp
              have HH := Lib.hid (cut_go hlt hst hc.out)
              clear hst
              go_wp2
              go_round
              case rel => exact ⟨i + 1, by omega, by go_num, by rw [HHE.out], HH⟩
              case measure => simp [intOf]; omega
        · obtain rfl : i = s.size := by omega
          have hfin : cutN s.data.toList = s.size := by
            have := hc.out
            rw [Nat.sub_self] at this; unfold cutTo at this; exact this.symm
          have HF := Lib.hid hfin
          clear hfin
          go_wp2
          go_ret
          exact ⟨by rw [HF.out]; rfl, rfl⟩
end Go.Proofs.YtpfkmjckjomeeaaDoor
