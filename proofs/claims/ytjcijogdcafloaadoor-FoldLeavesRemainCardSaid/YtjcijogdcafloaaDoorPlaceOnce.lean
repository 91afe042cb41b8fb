/- The walk of FoldEveryPlaceOnce. -/
import Derived.Test.YtjcijogdcafloaaDoorB2B
import Derived.Test.YtjcijogdcafloaaDoorFoldLaw
import Derived.Deep.QuietTactic
import Derived.BigQuiet
namespace Go.Proofs.YtjcijogdcafloaaDoor
open Go.RowKit
theorem eInt : ElemT Tryd.prog 33 3 (.int .i64 0) 8 := ElemT.mk_ Tryd.underlying33 (by kernel_rfl) rfl
theorem ne1_a (x : Int) (w : World) : Calls Tryd.prog 12 #[.int .i64 x] w fun e w' => e = .returned (.bool (x != 1)) ∧ w' = w := by
  go_enter Tryd.func12, Tryd.ntmps12
  go_wp2
  go_ret
  exact ⟨rfl, rfl⟩
theorem ne1_b (x : Int) (w : World) : Calls Tryd.prog 15 #[.int .i64 x] w fun e w' => e = .returned (.bool (x != 1)) ∧ w' = w := by
  go_enter Tryd.func15, Tryd.ntmps15
  go_wp2
  go_ret
  exact ⟨rfl, rfl⟩
set_option maxHeartbeats 1000000 in
theorem indexf_a (g n c : Nat) (w : World) (hn : n ≤ 100000) (h : ∀ i, i < n → w.cell? ⟨g, i, none⟩ = some (.int .i64 1)) :
    Calls Tryd.prog 25 #[.slice (some ⟨g, 0, none⟩) n c, .func (.func 12) #[] #[]] w fun e w' => e = .returned (.int .i64 (-1)) ∧ w' = w := by
  have HH := Lib.hid h
  clear h
  go_enter Tryd.func25, Tryd.ntmps25
  go_wp2
  go_loop [8] (fun vi => ∃ j : Nat, j ≤ n ∧ vi = .int .i64 j) (fun i => n - (intOf i).toNat)
  case atStart => exact ⟨0, by omega, rfl⟩
  case round =>
    obtain ⟨j, hj, rfl⟩ := hrel
    by_cases hlt : j < n
    · have hc := HH.out j hlt
      go_wp2_with (go_at_call 12; refine (ne1_a _ _).mono ?_; rintro e w' ⟨rfl, rfl⟩)
      go_round
      case rel => exact ⟨j + 1, by omega, by go_num⟩
      case measure => simp [intOf]; omega
    · obtain rfl : j = n := by omega
      go_wp2
      go_ret
      exact ⟨rfl, rfl⟩
set_option maxHeartbeats 1000000 in
theorem indexf_b (g n c : Nat) (w : World) (hn : n ≤ 100000) (h : ∀ i, i < n → w.cell? ⟨g, i, none⟩ = some (.int .i64 1)) :
    Calls Tryd.prog 25 #[.slice (some ⟨g, 0, none⟩) n c, .func (.func 15) #[] #[]] w fun e w' => e = .returned (.int .i64 (-1)) ∧ w' = w := by
  have HH := Lib.hid h
  clear h
  go_enter Tryd.func25, Tryd.ntmps25
  go_wp2
  go_loop [8] (fun vi => ∃ j : Nat, j ≤ n ∧ vi = .int .i64 j) (fun i => n - (intOf i).toNat)
  case atStart => exact ⟨0, by omega, rfl⟩
  case round =>
    obtain ⟨j, hj, rfl⟩ := hrel
    by_cases hlt : j < n
    · have hc := HH.out j hlt
      go_wp2_with (go_at_call 15; refine (ne1_b _ _).mono ?_; rintro e w' ⟨rfl, rfl⟩)
      go_round
      case rel => exact ⟨j + 1, by omega, by go_num⟩
      case measure => simp [intOf]; omega
    · obtain rfl : j = n := by omega
      go_wp2
      go_ret
      exact ⟨rfl, rfl⟩
theorem contf_a (g n c : Nat) (w : World) (hn : n ≤ 100000) (h : ∀ i, i < n → w.cell? ⟨g, i, none⟩ = some (.int .i64 1)) :
    Calls Tryd.prog 11 #[.slice (some ⟨g, 0, none⟩) n c, .func (.func 12) #[] #[]] w fun e w' => e = .returned (.bool false) ∧ w' = w := by
  have HH := Lib.hid h
  clear h
  go_enter Tryd.func11, Tryd.ntmps11
  go_wp2_with (go_at_call 25; refine (indexf_a g n c _ hn HH.out).mono ?_; rintro e w' ⟨rfl, rfl⟩)
  go_ret
  exact ⟨rfl, rfl⟩
theorem contf_b (g n c : Nat) (w : World) (hn : n ≤ 100000) (h : ∀ i, i < n → w.cell? ⟨g, i, none⟩ = some (.int .i64 1)) :
    Calls Tryd.prog 11 #[.slice (some ⟨g, 0, none⟩) n c, .func (.func 15) #[] #[]] w fun e w' => e = .returned (.bool false) ∧ w' = w := by
  have HH := Lib.hid h
  clear h
  go_enter Tryd.func11, Tryd.ntmps11
  go_wp2_with (go_at_call 25; refine (indexf_b g n c _ hn HH.out).mono ?_; rintro e w' ⟨rfl, rfl⟩)
  go_ret
  exact ⟨rfl, rfl⟩
/-! Counts. -/
def cntRow {α : Type} (M : Nat) (idx : α → Nat) (l : List α) : List Int := (List.range M).map fun i => ((l.countP (fun p => idx p == i) : Nat) : Int)
theorem cntRow_length {α : Type} (M : Nat) (idx : α → Nat) (l : List α) : (cntRow M idx l).length = M := by simp [cntRow]
theorem cntRow_at {α : Type} (M : Nat) (idx : α → Nat) (l : List α) {i : Nat} (h : i < M) : (cntRow M idx l).getD i 0 = ((l.countP (fun p => idx p == i) : Nat) : Int) := by
  simp [cntRow, List.getD_eq_getElem?_getD, h]
theorem cntRow_nil {α : Type} (M : Nat) (idx : α → Nat) : cntRow M idx ([] : List α) = List.replicate M 0 := by
  apply List.ext_getElem
  · simp [cntRow]
  · intro i h1 h2; simp [cntRow]
theorem cntRow_snoc {α : Type} (M : Nat) (idx : α → Nat) (l : List α) (p : α) (h : idx p < M) : cntRow M idx (l ++ [p]) = (cntRow M idx l).set (idx p) ((cntRow M idx l).getD (idx p) 0 + 1) := by
  rw [cntRow_at M idx l h]
  apply List.ext_getElem
  · simp [cntRow]
  · intro i h1 h2
    rw [List.getElem_set]
    have hi : i < M := by simpa [cntRow] using h1
    simp only [cntRow, List.getElem_map, List.getElem_range, List.countP_append, List.countP_cons, List.countP_nil]
    by_cases e : idx p = i
    · subst e; rw [if_pos rfl]; simp
    · rw [if_neg e]
      have : (idx p == i) = false := by rw [beq_eq_false_iff_ne]; exact e
      rw [this]; simp
end Go.Proofs.YtjcijogdcafloaaDoor
