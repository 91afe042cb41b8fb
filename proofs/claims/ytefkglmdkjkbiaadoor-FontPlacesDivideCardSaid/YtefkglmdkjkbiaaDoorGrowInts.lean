/- The walk of slices.Grow at []int, from the nil slice: an empty slice of the call's own. -/
import Derived.Test.YtefkglmdkjkbiaaDoorProg
import Derived.Test.YtefkglmdkjkbiaaDoorKit
import Derived.Lib.Walk
import Derived.Lib.SliceRun
import Derived.Lib.AppendZerosOnto
namespace Go.Proofs.YtefkglmdkjkbiaaDoor
open Go.RowKit
theorem grow_info : (Tryd.prog.info? 3).map (fun i => (i.zero, i.size, i.bytes)) = some (some (.int .i64 0), 1, 8) := by kernel_rfl
set_option maxRecDepth 100000 in
set_option maxHeartbeats 1000000 in
theorem grow_nil (n : Nat) (w : World) (hn : n ≤ 1000000000) :
    Calls Tryd.prog 36 #[.slice none 0 0, .int .i64 (n : Int)] w fun e w' => ∃ v, e = .returned v ∧ w'.ownsRow w.heap.size 3 1 v 0 [] ∧ Below w.heap.size w w' := by
  by_cases h0 : n = 0
  · subst h0
    go_enter Tryd.func36, Tryd.ntmps36
    go_wp2
    go_ret
    exact ⟨_, rfl, ⟨rfl, .inl ⟨rfl, rfl⟩⟩, Below.refl _ _⟩
  · obtain ⟨i0, hi, hz0, hz1, hz2⟩ := info_parts grow_info
    have hrz : ∀ ty, (Builtin.append_ #[27, 3] ty #[.slice none 0 0, .int .i64 (n : Int)]).run Tryd.prog w =
        .ok (.slice (some ⟨w.heap.size, 0, none⟩) n (grownCap w n 0 3)) (w.drew.alloc (.cells (Builtin.zeroCells (Value.int .i64 0).cells n ++ Builtin.zeroCells (Value.int .i64 0).cells (grownCap w n 0 3 - n)) 3)) := fun ty => by
      have h := Lib.run_append_grow_zeros w 27 3 ty 3 i0 (.int .i64 0) .i64 .i64 Tryd.underlying27 Tryd.underlying3 hi hz0 none 0 0 []
        (by rw [run_firstCells_none]) n (by omega) (by omega) (by omega) (by omega) (by rw [hz2]; omega)
        (growslice_fits (by omega) (by rw [hz2]; omega))
      simpa using h
    have hG := grownCap_ge w n 0 3
    have hG2 := grownCap_le_maxLen w n 0 3 (by unfold maxLen; omega)
    have hsz : (Builtin.zeroCells (Value.int .i64 0).cells n ++ Builtin.zeroCells (Value.int .i64 0).cells (grownCap w n 0 3 - n)).size = grownCap w n 0 3 * 1 := by
      have h1 : (Value.int .i64 0).cells.size = 1 := rfl
      simp [Builtin.zeroCells, h1]; omega
    generalize grownCap w n 0 3 = G at *
    generalize Builtin.zeroCells (Value.int .i64 0).cells n ++ Builtin.zeroCells (Value.int .i64 0).cells (G - n) = cs at *
    have hG63 : G ≤ 9223372036854775807 := by unfold maxLen at hG2; omega
    have HS := Lib.hid hsz
    have HG2 := Lib.hid hG2
    clear hsz hG2
    go_enter Tryd.func36, Tryd.ntmps36
    go_wp2_with (at_builtin; refine Lib.wpList_append_run _ rfl _ _ _ _ rfl _ _ rfl rfl _ _ (hrz _) ?_)
    go_ret
    refine ⟨_, rfl, ⟨rfl, .inr ⟨w.heap.size, G, cs, rfl, Nat.le_refl _, heap_alloc_new w.drew _, Nat.zero_le _, HG2.out, HS.out, by simp⟩⟩, ((Below.refl _ _).drew).alloc (Nat.le_refl _) _⟩
end Go.Proofs.YtefkglmdkjkbiaaDoor
