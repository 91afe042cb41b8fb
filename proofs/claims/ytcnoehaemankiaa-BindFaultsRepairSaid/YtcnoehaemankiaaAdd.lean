/- The walk of the closure that adds pages to a section. -/
import Derived.Test.YtcnoehaemankiaaKit
import Derived.Test.YtcnoehaemankiaaProg
import Derived.Deep.DeepMust
namespace Go.Proofs.Ytcnoehaemankiaa
open Go.RowKit
theorem eInt : ElemT Try.prog 31 3 (.int .i64 0) 8 := ElemT.mk_ Try.underlying31 (by kernel_rfl) rfl
theorem eRow : ElemT Try.prog 28 31 (.slice none 0 0) 24 := ElemT.mk_ Try.underlying28 (by kernel_rfl) rfl
/-- Pages from a on, the ones behind the last page being 0. -/
def clip (pages p : Int) : Int := if p ≤ pages then p else 0
def run (pages a : Int) (n : Nat) : List Int := (List.range n).map fun i : Nat => clip pages (a + (i : Int))
theorem run_succ (pages a : Int) (n : Nat) : run pages a (n + 1) = run pages a n ++ [clip pages (a + (n : Int))] := by simp [run, List.range_succ]
theorem add_in {w wr w1 : World} {pages a z : Int} {n m k B : Nat} {v u0 v' : Value} {xs : List Int} (hlt : k < n) (hz : clip pages (a + (k : Int)) = z) (hg : w.grownBy wr v.ownBlock)
    (hv : u0.ownBlock = v.ownBlock ∨ ∃ g, u0.ownBlock = some g ∧ w.heap.size ≤ g) (hown1 : w1.ownsRow B 3 1 v' (m + k + 1) (ints (xs ++ run pages a k) ++ [.int .i64 z])) (hg1 : (wr.alloc (Obj.cells #[Value.int .i64 z] 3)).grownBy w1 u0.ownBlock)
    (hk1 : v'.ownBlock = u0.ownBlock ∨ v'.ownBlock = some (wr.alloc (Obj.cells #[Value.int .i64 z] 3)).heap.size) :
    ∃ k1 : Nat, k1 ≤ n ∧ Value.int .i64 (a + (k : Int) + 1) = .int .i64 (a + (k1 : Int)) ∧ w1.ownsRow B 3 1 v' (m + k1) (ints (xs ++ run pages a k1)) ∧ w.grownBy w1 v.ownBlock ∧ (v'.ownBlock = v.ownBlock ∨ ∃ g, v'.ownBlock = some g ∧ w.heap.size ≤ g) := by
  refine ⟨k + 1, by omega, valInt (by omega), ?_, grown_push hg _ hg1 hv, ?_⟩
  · rw [run_succ, hz, ← List.append_assoc]
    simp only [ints, List.map_append, List.map_cons, List.map_nil] at hown1 ⊢
    exact hown1
  · rcases own_old_or_new hg.size hk1 with e | e
    · rw [e]; exact hv
    · exact .inr e
theorem add_any (pages a : Int) (n m : Nat) (v : Value) (xs : List Int) (ptr : Addr) (w : World) (B : Nat) (hp : w.cell? ptr = some (.int .i64 pages)) (hpB : ptr.block < w.heap.size) (hpo : some ptr.block ≠ v.ownBlock)
    (hown : w.ownsRow B 3 1 v m (ints xs)) (hB : B ≤ w.heap.size) (ha0 : 0 ≤ a) (ha : a ≤ 100000) (hn : n ≤ 1000) (hm : m ≤ 100000) :
    Calls Try.prog 18 #[v, .int .i64 a, .int .i64 (n : Int), .pointer (some ptr)] w fun e w' => ∃ v', e = .returned v' ∧ w'.ownsRow B 3 1 v' (m + n) (ints (xs ++ run pages a n)) ∧ w.grownBy w' v.ownBlock ∧ (v'.ownBlock = v.ownBlock ∨ ∃ g, v'.ownBlock = some g ∧ w.heap.size ≤ g) := by
  go_enter Try.func18, Try.ntmps18
  go_wp2
  have HP := Lib.hid hp
  clear hp
  go_loopw [0, 8] (fun v0 vp wr => ∃ k : Nat, k ≤ n ∧ vp = .int .i64 (a + (k : Int)) ∧ wr.ownsRow B 3 1 v0 (m + k) (ints (xs ++ run pages a k)) ∧ w.grownBy wr v.ownBlock ∧ (v0.ownBlock = v.ownBlock ∨ ∃ g, v0.ownBlock = some g ∧ w.heap.size ≤ g)) (fun _ p _ => (a + (n : Int) - intOf p).toNat)
  case atStart => exact ⟨0, by omega, by simp, by simpa [run] using hown, World.grownBy.refl _ _, .inl rfl⟩
  case round =>
    obtain ⟨k, hk, rfl, hown, hg, hv⟩ := hrel
    by_cases hlt : k < n
    · have hc : wr.cell? ptr = some (.int .i64 pages) := (grown_cell hg hpB hpo).trans HP.out
      have HO := Lib.hid hown
      have HG := Lib.hid hg
      have HV := Lib.hid hv
      clear hown hg hv
      by_cases hle : a + (k : Int) ≤ pages
      · have HC : Hid (clip pages (a + (k : Int)) = a + (k : Int)) := by unfold Hid clip; rw [if_pos hle]
        go_wp2_with (at_builtin; go_must (refine wpList_push eInt rfl (.tmp 20) (.tmp 22) rfl B u0 (m + k) _ rfl (HO.out.alloc _) ⟨wr.heap.size, 0, none⟩ 1 (.int .i64 (a + (k : Int))) rfl (new_one _ _ _) rfl (by omega) (by omega) (le_alloc (Nat.le_trans hB HG.out.size) _) ?_; intro v' w1 hown1 hg1 hk1))
        go_roundw
        case rel => exact add_in hlt HC.out HG.out HV.out hown1 hg1 hk1
        case measure => simp [intOf]; omega
      · have HC : Hid (clip pages (a + (k : Int)) = 0) := by unfold Hid clip; rw [if_neg hle]
        go_wp2_with (at_builtin; go_must (refine wpList_push eInt rfl (.tmp 24) (.tmp 25) rfl B u0 (m + k) _ rfl (HO.out.alloc _) ⟨wr.heap.size, 0, none⟩ 1 (.int .i64 0) rfl (new_one _ _ _) rfl (by omega) (by omega) (le_alloc (Nat.le_trans hB HG.out.size) _) ?_; intro v' w1 hown1 hg1 hk1))
        go_roundw
        case rel => exact add_in hlt HC.out HG.out HV.out hown1 hg1 hk1
        case measure => simp [intOf]; omega
    · obtain rfl : k = n := by omega
      go_wp2
      go_ret
      exact ⟨_, rfl, hown, hg, hv⟩
end Go.Proofs.Ytcnoehaemankiaa
