/- The walk of pairs. -/
import Derived.Test.YtefkglmdkjkbiaaDoorFntCmp
import Derived.Deep.QuietTactic
import Derived.BigQuiet
namespace Go.Proofs.YtefkglmdkjkbiaaDoor
open Go.RowKit Fnt
def kpv (k : Kp) : Value := .agg #[.int .i64 k.l, .int .i64 k.r, .int .i64 k.by_]
set_option maxRecDepth 100000 in
set_option maxHeartbeats 4000000 in
theorem pairs_any (a b : Kp) (w : World) : Calls Tryd.prog 68 #[kpv a, kpv b] w fun e w' => e = .returned (.int .i64 (pairC a b)) ∧ Below w.heap.size w w' := by
  obtain ⟨al, ar, ab⟩ := a
  obtain ⟨bl, br, bb⟩ := b
  have HD : Hid (pairC ⟨al, ar, ab⟩ ⟨bl, br, bb⟩ = if cmpI al bl = 0 then cmpI ar br else cmpI al bl) := rfl
  have HC1 := fun W => cmp_any al bl W
  have HC2 := fun W => cmp_any ar br W
  generalize pairC ⟨al, ar, ab⟩ ⟨bl, br, bb⟩ = r at *
  generalize cmpI al bl = x at *
  generalize cmpI ar br = y at *
  have HX1 := Lib.hid HC1
  have HX2 := Lib.hid HC2
  clear HC1 HC2
  have HB0 : Hid (∀ o1 o2, Below w.heap.size w ((w.alloc o1).alloc o2)) := fun o1 o2 => ((Below.refl _ _).alloc (Nat.le_refl _) o1).alloc (by simp) o2
  unfold kpv
  go_enter Tryd.func68, Tryd.ntmps68
  go_wp2
  have b1 : Blk ((w.alloc (.cells #[.int .i64 al, .int .i64 ar, .int .i64 ab] 35)).alloc (.cells #[.int .i64 bl, .int .i64 br, .int .i64 bb] 35)) w.heap.size 35 #[.int .i64 al, .int .i64 ar, .int .i64 ab] := (Blk.new w _ _).alloc _
  have b2 : Blk ((w.alloc (.cells #[.int .i64 al, .int .i64 ar, .int .i64 ab] 35)).alloc (.cells #[.int .i64 bl, .int .i64 br, .int .i64 bb] 35)) (w.heap.size + 1) 35 #[.int .i64 bl, .int .i64 br, .int .i64 bb] := by
    have := Blk.new (w.alloc (.cells #[.int .i64 al, .int .i64 ar, .int .i64 ab] 35)) 35 #[.int .i64 bl, .int .i64 br, .int .i64 bb]
    simpa using this
  have b0 := HB0.out (.cells #[.int .i64 al, .int .i64 ar, .int .i64 ab] 35) (.cells #[.int .i64 bl, .int .i64 br, .int .i64 bb] 35)
  generalize (w.alloc (.cells #[.int .i64 al, .int .i64 ar, .int .i64 ab] 35)).alloc (.cells #[.int .i64 bl, .int .i64 br, .int .i64 bb] 35) = w2 at *
  have B0 := Lib.hid b0
  have a0 := b1.cell 0
  have a1 := b1.cell 1
  have c0 := b2.cell 0
  have c1 := b2.cell 1
  simp only [List.getElem?_toArray, List.getElem?_cons_zero, List.getElem?_cons_succ] at a0 a1 c0 c1
  clear b1 b2 b0
  go_still_tail 10, (by kernel_rfl)
  still_call ((HX1.out _).mono fun _ _ h => ⟨h.1, h.2.symm⟩)
  repeat still_step
  still_call ((HX2.out _).mono fun _ _ h => ⟨h.1, h.2.symm⟩)
  repeat still_step
  refine wpStill_nil ?_
  change wpList _ _ _ _ _ w2.drew
  have HO := or_any x y w2.heap.size (w2.drew.alloc (.cells #[.int .i64 x, .int .i64 y] 3)) (((Blk.new w2.drew 3 #[.int .i64 x, .int .i64 y]).cell 0).trans rfl) (((Blk.new w2.drew 3 #[.int .i64 x, .int .i64 y]).cell 1).trans rfl)
  rw [← HD.out] at HO
  have HOh := Lib.hid HO
  have BF : Hid (Below w.heap.size w (w2.drew.alloc (.cells #[.int .i64 x, .int .i64 y] 3))) := (B0.out.drew).alloc B0.out.size _
  clear HO
  go_wp2_with (go_at_call 93; refine HOh.out.mono ?_; rintro e w' ⟨rfl, rfl⟩)
  go_ret
  exact ⟨rfl, BF.out⟩
end Go.Proofs.YtefkglmdkjkbiaaDoor
