/- The walks of the small functions of print: comparisons, level; the library's tables as the walks carry them. -/
import Derived.Test.YtonmpealebggoaaGreatDoorPrpCnd
import Derived.Test.YtonmpealebggoaaGreatDoorLaidB
import Derived.Test.YtonmpealebggoaaGreatDoorPrpPlain
import Derived.Lib.SmallJoins
import Derived.Lib.AppendIntMem
import Derived.Lib.ItoaMem
namespace Go.Proofs.YtonmpealebggoaaGreatDoor
open Go.RowKit Pr Go.Joins
/-- What the walks ask of the library's variables. -/
structure Tabs (w : World) : Prop where
  pow : Lib.TabIs Tryz.prog w "internal/strconv.uint64pow10" .u64 Lib.pow10Tab
  mx : ∃ m, w.cell? ⟨0, 0, none⟩ = some (.int .i64 m)
  sz : 0 < w.heap.size
theorem Tabs.later {w w' : World} (h : Tabs w) (hb : Below w.heap.size w w') : Tabs w' := by
  obtain ⟨m, hm⟩ := h.mx
  exact ⟨tab_stays (g := 5) (by kernel_rfl) h.pow hb (Nat.le_refl _), ⟨m, (hb.cell (p := ⟨0, 0, none⟩) h.sz).trans hm⟩, Nat.lt_of_lt_of_le h.sz hb.size⟩
theorem itoa_any (n : Int) (h0 : -9223372036854775808 ≤ n) (h1 : n ≤ 9223372036854775807) (w : World) (hT : Tabs w) : Calls Tryz.prog 79 #[.int .i64 n] w fun e w' => e = .returned (.string ⟨(Lib.itoa n).toArray⟩) ∧ Below w.heap.size w w' :=
  (strconv_Itoa n h0 h1 w hT.pow).mono fun e w' ⟨a, k, os, b⟩ => ⟨a, by rw [b]; exact Lib.below_grow _ w (Nat.le_refl _) k os⟩
theorem level_any (k : Int) (h0 : 0 ≤ k) (h3 : k ≤ 3) (w : World) : Calls Tryz.prog 80 #[.int .i64 k] w fun e w' => e = .returned (.int .i64 (lev k : Nat)) ∧ Below w.heap.size w w' := by
  have hk : k = 0 ∨ k = 1 ∨ k = 2 ∨ k = 3 := by omega
  rcases hk with rfl | rfl | rfl | rfl
  all_goals
    go_enter Tryz.func80, Tryz.ntmps80
    go_wp2
    go_ret
    exact ⟨rfl, (Below.refl _ _).alloc (Nat.le_refl _) _⟩
def opCells : Array Value := #[.string ⟨#[60]⟩, .string ⟨#[60, 61]⟩, .string ⟨#[61]⟩, .string ⟨#[33, 61]⟩, .string ⟨#[62, 61]⟩, .string ⟨#[62]⟩]
theorem comparisons_any (w : World) : Calls Tryz.prog 73 #[] w fun e w' => e = .returned (.slice (some ⟨w.heap.size, 0, none⟩) 6 6) ∧ w' = w.alloc (.cells opCells 9) := by
  go_enter Tryz.func73, Tryz.ntmps73
  go_wp2
  go_ret
  exact ⟨rfl, rfl⟩
theorem opCells_at (c : Int) (h0 : 0 ≤ c) (h5 : c ≤ 5) : opCells[c.toNat]? = some (.string (Bs (opS c))) := by
  have hk : c = 0 ∨ c = 1 ∨ c = 2 ∨ c = 3 ∨ c = 4 ∨ c = 5 := by omega
  rcases hk with rfl | rfl | rfl | rfl | rfl | rfl <;> rfl
/-- The minus sign for the plus sign. -/
theorem minus_none (w : World) (hT : Tabs w) : Calls Tryz.prog 78 #[.string ⟨#[]⟩, .string ⟨#[43]⟩, .string ⟨#[45]⟩] w fun e w' => e = .returned (.string ⟨#[]⟩) ∧ Below w.heap.size w w' := by
  obtain ⟨m, hm⟩ := hT.mx
  exact (strings_ReplaceAll ⟨#[]⟩ ⟨#[43]⟩ ⟨#[45]⟩ m w (by decide) hm (by decide) (by decide +kernel)).mono fun e w' ⟨a, b⟩ => ⟨a.trans (by congr), b⟩
theorem minus_some (w : World) (hT : Tabs w) : Calls Tryz.prog 78 #[.string ⟨#[32, 43, 32]⟩, .string ⟨#[43]⟩, .string ⟨#[45]⟩] w fun e w' => e = .returned (.string ⟨#[32, 45, 32]⟩) ∧ Below w.heap.size w w' := by
  obtain ⟨m, hm⟩ := hT.mx
  exact (strings_ReplaceAll ⟨#[32, 43, 32]⟩ ⟨#[43]⟩ ⟨#[45]⟩ m w (by decide) hm (by decide) (by decide +kernel)).mono fun e w' ⟨a, b⟩ => ⟨a.trans (by congr), b⟩
end Go.Proofs.YtonmpealebggoaaGreatDoor
