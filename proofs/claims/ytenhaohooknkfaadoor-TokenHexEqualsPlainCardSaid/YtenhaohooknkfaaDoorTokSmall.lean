/- The walks of token's small functions: kinds of bytes. -/
import Derived.Test.YtenhaohooknkfaaDoorBuildT
import Derived.Test.YtenhaohooknkfaaDoorTokLaw
import Derived.Test.YtenhaohooknkfaaDoorLaid
import Derived.IntWalk
namespace Go.Proofs.YtenhaohooknkfaaDoor
open Go.RowKit Tk
/-- A byte as a number. -/
def bt (c : UInt8) : Int := (c.toNat : Int)
theorem bt_nn (c : UInt8) : 0 ≤ bt c ∧ bt c ≤ 255 := by unfold bt; have := c.toNat_lt; omega
theorem bt_inj {a b : UInt8} (h : bt a = bt b) : a = b := by unfold bt at h; exact UInt8.toNat_inj.1 (by omega)
theorem white_bt (c : UInt8) : white c = (decide (bt c = 32) || (decide (bt c = 9) || decide (bt c = 10))) := by
  have := u8_all (fun c => white c == (decide (bt c = 32) || (decide (bt c = 9) || decide (bt c = 10)))) (by decide +kernel) c
  simpa using this
theorem digit_bt (c : UInt8) : digit c = (decide (48 ≤ bt c) && decide (bt c ≤ 57)) := by
  have := u8_all (fun c => digit c == (decide (48 ≤ bt c) && decide (bt c ≤ 57))) (by decide +kernel) c
  simpa using this
theorem letter_bt (c : UInt8) : letter c = ((decide (97 ≤ bt c) && decide (bt c ≤ 122)) || (decide (65 ≤ bt c) && decide (bt c ≤ 90))) := by
  have := u8_all (fun c => letter c == ((decide (97 ≤ bt c) && decide (bt c ≤ 122)) || (decide (65 ≤ bt c) && decide (bt c ≤ 90)))) (by decide +kernel) c
  simpa using this
theorem delim_bt (c : UInt8) : delim c = decide (0 ≤ Lib.indexByte [40, 41, 60, 62, 91, 93, 47, 64, 37] c) := by
  have := u8_all (fun c => delim c == decide (0 ≤ Lib.indexByte [40, 41, 60, 62, 91, 93, 47, 64, 37] c)) (by decide +kernel) c
  simpa using this
theorem white_any (c : UInt8) (w : World) : Calls Tryd.prog 36 #[.int .u8 (bt c)] w fun e w' => e = .returned (.bool (white c)) ∧ w = w' := by
  have HF := Lib.hid (white_bt c)
  have hb := bt_nn c
  generalize bt c = n at *
  by_cases h1 : n = 32
  · subst h1
    go_enter Tryd.func36, Tryd.ntmps36
    go_wp2
    go_ret
    exact ⟨by rw [HF.out]; rfl, rfl⟩
  · by_cases h2 : n = 9
    · subst h2
      go_enter Tryd.func36, Tryd.ntmps36
      go_wp2
      go_ret
      exact ⟨by rw [HF.out]; rfl, rfl⟩
    · have HF2 : Hid (white c = (n == 10)) := by unfold Hid; rw [HF.out, decide_eq_false h1, decide_eq_false h2]; rfl
      have b1 : (n == 32) = false := by simpa using h1
      have b2 : (n == 9) = false := by simpa using h2
      go_enter Tryd.func36, Tryd.ntmps36
      go_wp2
      go_ret
      exact ⟨by rw [HF2.out]; rfl, rfl⟩
theorem digit_any (c : UInt8) (w : World) : Calls Tryd.prog 35 #[.int .u8 (bt c)] w fun e w' => e = .returned (.bool (digit c)) ∧ w = w' := by
  have HF := Lib.hid (digit_bt c)
  have hb := bt_nn c
  generalize bt c = n at *
  by_cases h1 : 48 ≤ n
  · have HF2 : Hid (digit c = decide (n ≤ 57)) := by unfold Hid; rw [HF.out, decide_eq_true h1]; rfl
    go_enter Tryd.func35, Tryd.ntmps35
    go_wp2
    go_ret
    exact ⟨by rw [HF2.out]; rfl, rfl⟩
  · have HF2 : Hid (digit c = false) := by unfold Hid; rw [HF.out, decide_eq_false h1]; rfl
    go_enter Tryd.func35, Tryd.ntmps35
    go_wp2
    go_ret
    exact ⟨by rw [HF2.out]; rfl, rfl⟩
theorem letter_any (c : UInt8) (w : World) : Calls Tryd.prog 34 #[.int .u8 (bt c)] w fun e w' => e = .returned (.bool (letter c)) ∧ w = w' := by
  have HF := Lib.hid (letter_bt c)
  have hb := bt_nn c
  generalize bt c = n at *
  by_cases h1 : 97 ≤ n
  · by_cases h2 : n ≤ 122
    · have HF2 : Hid (letter c = true) := by unfold Hid; rw [HF.out, decide_eq_true h1, decide_eq_true h2]; rfl
      go_enter Tryd.func34, Tryd.ntmps34
      go_wp2
      go_ret
      exact ⟨by rw [HF2.out]; rfl, rfl⟩
    · have HF2 : Hid (letter c = false) := by unfold Hid; rw [HF.out, decide_eq_true h1, decide_eq_false h2, decide_eq_true (show 65 ≤ n by omega), decide_eq_false (show ¬ n ≤ 90 by omega)]; rfl
      have h3 : 65 ≤ n := by omega
      have h4 : ¬ n ≤ 90 := by omega
      go_enter Tryd.func34, Tryd.ntmps34
      go_wp2
      go_ret
      exact ⟨by rw [HF2.out]; rfl, rfl⟩
  · by_cases h2 : 65 ≤ n
    · have HF2 : Hid (letter c = decide (n ≤ 90)) := by unfold Hid; rw [HF.out, decide_eq_false h1, decide_eq_true h2]; simp
      go_enter Tryd.func34, Tryd.ntmps34
      go_wp2
      go_ret
      exact ⟨by rw [HF2.out]; rfl, rfl⟩
    · have HF2 : Hid (letter c = false) := by unfold Hid; rw [HF.out, decide_eq_false h1, decide_eq_false h2]; rfl
      go_enter Tryd.func34, Tryd.ntmps34
      go_wp2
      go_ret
      exact ⟨by rw [HF2.out]; rfl, rfl⟩
theorem delim_any (c : UInt8) (w : World) : Calls Tryd.prog 37 #[.int .u8 (bt c)] w fun e w' => e = .returned (.bool (delim c)) ∧ w = w' := by
  have HF := Lib.hid (delim_bt c)
  have HC : Hid (∀ W, Calls Tryd.prog 30 #[.string ⟨#[40, 41, 60, 62, 91, 93, 47, 64, 37]⟩, .int .u8 (bt c)] W fun e w' => e = .returned (.int .i64 (Lib.indexByte [40, 41, 60, 62, 91, 93, 47, 64, 37] c)) ∧ w' = W) := fun W => by
    have h := strings_IndexByte ⟨#[40, 41, 60, 62, 91, 93, 47, 64, 37]⟩ (bt c) W
    rwa [show (bt c).toNat.toUInt8 = c by unfold bt; rw [Int.toNat_natCast]; exact UInt8.ofNat_toNat] at h
  generalize Lib.indexByte [40, 41, 60, 62, 91, 93, 47, 64, 37] c = r at *
  have HD : Hid (delim c = decide (0 ≤ r)) := HF.out
  clear HF
  go_enter Tryd.func37, Tryd.ntmps37
  go_wp2_with fail
  refine (HC.out _).mono ?_
  rintro e w1 ⟨rfl, rfl⟩
  go_wp2_with fail
  go_ret
  exact ⟨by rw [HD.out]; rfl, rfl⟩
theorem regular_any (c : UInt8) (w : World) : Calls Tryd.prog 24 #[.int .u8 (bt c)] w fun e w' => e = .returned (.bool (regular c)) ∧ w = w' := by
  have HW := Lib.hid fun W => white_any c W
  have HD := Lib.hid fun W => delim_any c W
  have HF : Hid (regular c = (!white c && !delim c)) := rfl
  generalize regular c = rr at *
  cases hw : white c
  · rw [hw] at HW HF
    generalize delim c = d at *
    go_enter Tryd.func24, Tryd.ntmps24
    go_wp2_with fail
    refine (HW.out _).mono ?_
    rintro e w1 ⟨rfl, rfl⟩
    go_wp2_with (go_at_call 37; refine (HD.out _).mono ?_; rintro e w1 ⟨rfl, rfl⟩)
    go_ret
    exact ⟨by rw [HF.out]; simp, rfl⟩
  · rw [hw] at HW HF
    go_enter Tryd.func24, Tryd.ntmps24
    go_wp2_with fail
    refine (HW.out _).mono ?_
    rintro e w1 ⟨rfl, rfl⟩
    go_wp2_with fail
    go_ret
    exact ⟨by rw [HF.out]; rfl, rfl⟩
end Go.Proofs.YtenhaohooknkfaaDoor
