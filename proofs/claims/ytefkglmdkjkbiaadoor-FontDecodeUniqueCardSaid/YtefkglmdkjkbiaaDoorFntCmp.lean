/- The walks of cmp.Compare, cmp.Or and pairs. -/
import Derived.Test.YtefkglmdkjkbiaaDoorFntMem
import Derived.Deep.DeepMust
import Derived.RegionTactic
import Derived.Deep.RegionWith
import Derived.BigRegion
import Derived.StillTailTactics
namespace Go.Proofs.YtefkglmdkjkbiaaDoor
open Go.RowKit Fnt
theorem nan_any (x : Int) (w : World) : Calls Tryd.prog 92 #[.int .i64 x] w fun e w' => e = .returned (.bool false) ∧ w = w' := by
  go_enter Tryd.func92, Tryd.ntmps92
  go_wp2
  go_ret
  exact ⟨by simp, rfl⟩
theorem cmp_any (x y : Int) (w : World) : Calls Tryd.prog 66 #[.int .i64 x, .int .i64 y] w fun e w' => e = .returned (.int .i64 (cmpI x y)) ∧ w = w' := by
  have HD : Hid (cmpI x y = if x < y then -1 else if y < x then 1 else 0) := rfl
  generalize cmpI x y = r at *
  have HN := fun z => Lib.hid (nan_any z)
  by_cases h1 : x < y
  · rw [if_pos h1] at HD
    go_enter Tryd.func66, Tryd.ntmps66
    go_wp2_with (go_at_call 92; refine (nan_any _ _).mono ?_; rintro e w' ⟨rfl, rfl⟩)
    go_ret
    exact ⟨endInt HD.out.symm, rfl⟩
  · rw [if_neg h1] at HD
    by_cases h2 : y < x
    · rw [if_pos h2] at HD
      go_enter Tryd.func66, Tryd.ntmps66
      go_wp2_with (go_at_call 92; refine (nan_any _ _).mono ?_; rintro e w' ⟨rfl, rfl⟩)
      go_ret
      exact ⟨endInt HD.out.symm, rfl⟩
    · rw [if_neg h2] at HD
      go_enter Tryd.func66, Tryd.ntmps66
      go_wp2_with (go_at_call 92; refine (nan_any _ _).mono ?_; rintro e w' ⟨rfl, rfl⟩)
      go_ret
      exact ⟨endInt HD.out.symm, rfl⟩
theorem or_any (a b : Int) (g : Nat) (w : World) (c0 : w.cell? ⟨g, 0, none⟩ = some (.int .i64 a)) (c1 : w.cell? ⟨g, 1, none⟩ = some (.int .i64 b)) :
    Calls Tryd.prog 93 #[.slice (some ⟨g, 0, none⟩) 2 2] w fun e w' => e = .returned (.int .i64 (if a = 0 then b else a)) ∧ w = w' := by
  have HD : Hid ((if a = 0 then b else a) = if a = 0 then b else a) := rfl
  generalize hr : (if a = 0 then b else a) = r at *
  have HR := Lib.hid hr
  clear hr HD
  go_enter Tryd.func93, Tryd.ntmps93
  go_wp2
  go_loop [5, 8] (fun _ vi => vi = .int .i64 0 ∨ (vi = .int .i64 1 ∧ a = 0) ∨ (vi = .int .i64 2 ∧ a = 0 ∧ b = 0)) (fun _ i => 2 - (intOf i).toNat)
  case atStart => exact .inl rfl
  case round =>
    rcases hrel with rfl | ⟨rfl, ha⟩ | ⟨rfl, ha, hb⟩
    · by_cases ha : a = 0
      · go_wp2
        go_round
        case rel => exact .inr (.inl ⟨rfl, ha⟩)
        case measure => simp [intOf]
      · go_wp2
        go_ret
        exact ⟨endInt (by rw [← HR.out, if_neg ha]), rfl⟩
    · by_cases hb : b = 0
      · go_wp2
        go_round
        case rel => exact .inr (.inr ⟨rfl, ha, hb⟩)
        case measure => simp [intOf]
      · go_wp2
        go_ret
        exact ⟨endInt (by rw [← HR.out, if_pos ha]), rfl⟩
    · go_wp2
      go_ret
      exact ⟨endInt (by rw [← HR.out, if_pos ha, hb]), rfl⟩
end Go.Proofs.YtefkglmdkjkbiaaDoor
