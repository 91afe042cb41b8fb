/- The walks of cmp.Compare, cmp.Or and pairs. The walk of pairs. -/
import Derived.Test.YtefkglmdkjkbiaaDoorFntMem
import Derived.Deep.DeepMust
import Derived.RegionTactic
import Derived.Deep.RegionWith
import Derived.BigRegion
import Derived.StillTailTactics
import Derived.Deep.QuietTactic
import Derived.BigQuiet
namespace Go.Proofs.YtefkglmdkjkbiaaDoor
open Go.RowKit Fnt
theorem nan_any (x : Int) (w : World) : Calls Tryd.prog 92 #[.int .i64 x] w fun e w' => e = .returned (.bool false) ∧ w = w' := by
  go_enter Tryd.func92, Tryd.ntmps92
  go_wp2
  go_ret
  exact ⟨by simp, rfl⟩
theorem cmp_any (x y : Int) (w : World) : Calls Tryd.prog 66 #[.int .i64 x, .int .i64 y] w fun e w' => e = .returned (.int .i64 (cmpI x y)) ∧ w = w' := by
  have HD : Hid (cmpI x y = if x < y then -1 else if y < x then 1 else 0) := rfl
  generalize cmpI x y = r at *
  have HN := fun z => Lib.hid (nan_any z)
  by_cases h1 : x < y
  · rw [if_pos h1] at HD
    go_enter Tryd.func66, Tryd.ntmps66
    go_wp2_with (go_at_call 92; refine (nan_any _ _).mono ?_; rintro e w' ⟨rfl, rfl⟩)
    go_ret
    exact ⟨endInt HD.out.symm, rfl⟩
  · rw [if_neg h1] at HD
    by_cases h2 : y < x
    · rw [if_pos h2] at HD
      go_enter Tryd.func66, Tryd.ntmps66
      go_wp2_with (go_at_call 92; refine (nan_any _ _).mono ?_; rintro e w' ⟨rfl, rfl⟩)
      go_ret
      exact ⟨endInt HD.out.symm, rfl⟩
    · rw [if_neg h2] at HD
      go_enter Tryd.func66, Tryd.ntmps66
      go_wp2_with (go_at_call 92; refine (nan_any _ _).mono ?_; rintro e w' ⟨rfl, rfl⟩)
      go_ret
      exact ⟨endInt HD.out.symm, rfl⟩
theorem or_any (a b : Int) (g : Nat) (w : World) (c0 : w.cell? ⟨g, 0, none⟩ = some (.int .i64 a)) (c1 : w.cell? ⟨g, 1, none⟩ = some (.int .i64 b)) :
    Calls Tryd.prog 93 #[.slice (some ⟨g, 0, none⟩) 2 2] w fun e w' => e = .returned (.int .i64 (if a = 0 then b else a)) ∧ w = w' := by
  have HD : Hid ((if a = 0 then b else a) = if a = 0 then b else a) := rfl
  generalize hr : (if a = 0 then b else a) = r at *
  have HR := Lib.hid hr
  clear hr HD
  go_enter Tryd.func93, Tryd.ntmps93
  go_wp2
  go_loop [5, 8] (fun _ vi => vi = .int .i64 0 ∨ (vi = .int .i64 1 ∧ a = 0) ∨ (vi = .int .i64 2 ∧ a = 0 ∧ b = 0)) (fun _ i => 2 - (intOf i).toNat)
  case atStart => exact .inl rfl
  case round =>
    rcases hrel with rfl | ⟨rfl, ha⟩ | ⟨rfl, ha, hb⟩
    · by_cases ha : a = 0
      · go_wp2
        go_round
        case rel => exact .inr (.inl ⟨rfl, ha⟩)
        case measure => simp [intOf]
      · go_wp2
        go_ret
        exact ⟨endInt (by rw [← HR.out, if_neg ha]), rfl⟩
    · by_cases hb : b = 0
      · go_wp2
        go_round
        case rel => exact .inr (.inr ⟨rfl, ha, hb⟩)
        case measure => simp [intOf]
      · go_wp2
        go_ret
        exact ⟨endInt (by rw [← HR.out, if_pos ha]), rfl⟩
    · go_wp2
      go_ret
      exact ⟨endInt (by rw [← HR.out, if_pos ha, hb]), rfl⟩
end Go.Proofs.YtefkglmdkjkbiaaDoor
namespace Go.Proofs.YtefkglmdkjkbiaaDoor
open Go.RowKit Fnt
def kpv (k : Kp) : Value := .agg #[.int .i64 k.l, .int .i64 k.r, .int .i64 k.by_]
set_option maxRecDepth 100000 in
set_option maxHeartbeats 4000000 in
theorem pairs_any (a b : Kp) (w : World) : Calls Tryd.prog 68 #[kpv a, kpv b] w fun e w' => e = .returned (.int .i64 (pairC a b)) ∧ Below w.heap.size w w' := by
  obtain ⟨al, ar, ab⟩ := a
  obtain ⟨bl, br, bb⟩ := b
  have HD : Hid (pairC ⟨al, ar, ab⟩ ⟨bl, br, bb⟩ = if cmpI al bl = 0 then cmpI ar br else cmpI al bl) := rfl
  have HC1 := fun W => cmp_any al bl W
  have HC2 := fun W => cmp_any ar br W
  generalize pairC ⟨al, ar, ab⟩ ⟨bl, br, bb⟩ = r at *
  generalize cmpI al bl = x at *
  generalize cmpI ar br = y at *
  have HX1 := Lib.hid HC1
  have HX2 := Lib.hid HC2
  clear HC1 HC2
  have HB0 : Hid (∀ o1 o2, Below w.heap.size w ((w.alloc o1).alloc o2)) := fun o1 o2 => ((Below.refl _ _).alloc (Nat.le_refl _) o1).alloc (by simp) o2
  unfold kpv
  go_enter Tryd.func68, Tryd.ntmps68
  go_wp2
  have b1 : Blk ((w.alloc (.cells #[.int .i64 al, .int .i64 ar, .int .i64 ab] 35)).alloc (.cells #[.int .i64 bl, .int .i64 br, .int .i64 bb] 35)) w.heap.size 35 #[.int .i64 al, .int .i64 ar, .int .i64 ab] := (Blk.new w _ _).alloc _
  have b2 : Blk ((w.alloc (.cells #[.int .i64 al, .int .i64 ar, .int .i64 ab] 35)).alloc (.cells #[.int .i64 bl, .int .i64 br, .int .i64 bb] 35)) (w.heap.size + 1) 35 #[.int .i64 bl, .int .i64 br, .int .i64 bb] := by
    have := Blk.new (w.alloc (.cells #[.int .i64 al, .int .i64 ar, .int .i64 ab] 35)) 35 #[.int .i64 bl, .int .i64 br, .int .i64 bb]
    simpa using this
  have b0 := HB0.out (.cells #[.int .i64 al, .int .i64 ar, .int .i64 ab] 35) (.cells #[.int .i64 bl, .int .i64 br, .int .i64 bb] 35)
  generalize (w.alloc (.cells #[.int .i64 al, .int .i64 ar, .int .i64 ab] 35)).alloc (.cells #[.int .i64 bl, .int .i64 br, .int .i64 bb] 35) = w2 at *
  have B0 := Lib.hid b0
  have a0 := b1.cell 0
  have a1 := b1.cell 1
  have c0 := b2.cell 0
  have c1 := b2.cell 1
  simp only [List.getElem?_toArray, List.getElem?_cons_zero, List.getElem?_cons_succ] at a0 a1 c0 c1
  clear b1 b2 b0
  go_still_tail 10, (by kernel_rfl)
  still_call ((HX1.out _).mono fun _ _ h => ⟨h.1, h.2.symm⟩)
  repeat still_step
  still_call ((HX2.out _).mono fun _ _ h => ⟨h.1, h.2.symm⟩)
  repeat still_step
  refine wpStill_nil ?_
  change wpList _ _ _ _ _ w2.drew
  have HO := or_any x y w2.heap.size (w2.drew.alloc (.cells #[.int .i64 x, .int .i64 y] 3)) (((Blk.new w2.drew 3 #[.int .i64 x, .int .i64 y]).cell 0).trans rfl) (((Blk.new w2.drew 3 #[.int .i64 x, .int .i64 y]).cell 1).trans rfl)
  rw [← HD.out] at HO
  have HOh := Lib.hid HO
  have BF : Hid (Below w.heap.size w (w2.drew.alloc (.cells #[.int .i64 x, .int .i64 y] 3))) := (B0.out.drew).alloc B0.out.size _
  clear HO
  go_wp2_with (go_at_call 93; refine HOh.out.mono ?_; rintro e w' ⟨rfl, rfl⟩)
  go_ret
  exact ⟨rfl, BF.out⟩
end Go.Proofs.YtefkglmdkjkbiaaDoor
