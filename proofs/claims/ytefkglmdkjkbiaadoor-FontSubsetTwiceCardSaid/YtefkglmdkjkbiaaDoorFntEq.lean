/- slices.Equal at ranges and at pairs, of two slices that read as one list. -/
import Derived.Test.YtefkglmdkjkbiaaDoorFntMem
import Derived.Deep.DeepMust
import Derived.RegionTactic
import Derived.BigRegion
namespace Go.Proofs.YtefkglmdkjkbiaaDoor
open Go.RowKit Fnt
set_option maxRecDepth 100000 in
set_option maxHeartbeats 4000000 in
theorem equal_rg (va vb : Value) (l : List Rg) (ok ok' : Nat → Prop) (w : World) (ha : SlM w ok va l.length (l.flatMap rgc)) (hb : SlM w ok' vb l.length (l.flatMap rgc)) (hn : l.length ≤ 100000) :
    Calls Tryd.prog 16 #[va, vb] w fun e w' => e = .returned (.bool true) ∧ Below w.heap.size w w' := by
  have HA := Lib.hid ha
  have HB := Lib.hid hb
  obtain ⟨Aa, ca, eva⟩ := SlM.form ha
  obtain ⟨Ab, cb, evb⟩ := SlM.form hb
  clear ha hb
  generalize hlen : l.length = n at *
  have HN := Lib.hid hlen
  clear hlen
  subst eva evb
  go_enter Tryd.func16, Tryd.ntmps16
  go_wp2
  go_loopw [13] (fun vi wr => ∃ i : Nat, i ≤ n ∧ vi = .int .i64 i ∧ ∃ k, wr = w.drewN k) (fun i _ => n - (intOf i).toNat)
  case atStart => exact ⟨0, by omega, rfl, 0, rfl⟩
  case round =>
    obtain ⟨i, hi, rfl, k, rfl⟩ := hrel
    by_cases hlt : i < n
    · obtain ⟨b1, o1, c1, ev1, _, hl1, _, _, h1⟩ := rgs_cells (l := l) (by rw [HN.out]; exact HA.out) (by rw [HN.out]; omega)
      obtain ⟨b2, o2, c2, ev2, _, hl2, _, _, h2⟩ := rgs_cells (l := l) (by rw [HN.out]; exact HB.out) (by rw [HN.out]; omega)
      injection ev1 with e1 e1' e1''
      injection ev2 with e2 e2' e2''
      clear e1' e2'
      subst e1 e1'' e2 e2''
      obtain ⟨p0, p1, p2⟩ := h1 i (by rw [HN.out]; exact hlt)
      obtain ⟨q0, q1, q2⟩ := h2 i (by rw [HN.out]; exact hlt)
      generalize l.getD i default = x at *
      clear h1 h2
      obtain ⟨xx, xy, xw⟩ := x
      dsimp only at p0 p1 p2 q0 q1 q2
      have hne : ∀ W, (binOp .neq 49 (.agg #[.int .i64 xx, .int .i64 xy, .int .i64 xw]) (.agg #[.int .i64 xx, .int .i64 xy, .int .i64 xw])).run Tryd.prog W = .ok (.bool false) W := fun W => by
        simp [go_sem]
      go_wp2
      go_region
      go_wp2
      go_roundw
      case rel => exact ⟨i + 1, by omega, by go_num, k + 1, rfl⟩
      case measure => simp [intOf]; omega
    · obtain rfl : i = n := by omega
      go_wp2
      go_ret
      exact ⟨rfl, below_drewN (Below.refl _ w) k⟩
set_option maxRecDepth 100000 in
set_option maxHeartbeats 4000000 in
theorem equal_kp (va vb : Value) (l : List Kp) (ok ok' : Nat → Prop) (w : World) (ha : SlM w ok va l.length (l.flatMap kpc)) (hb : SlM w ok' vb l.length (l.flatMap kpc)) (hn : l.length ≤ 100000) :
    Calls Tryd.prog 17 #[va, vb] w fun e w' => e = .returned (.bool true) ∧ Below w.heap.size w w' := by
  have HA := Lib.hid ha
  have HB := Lib.hid hb
  obtain ⟨Aa, ca, eva⟩ := SlM.form ha
  obtain ⟨Ab, cb, evb⟩ := SlM.form hb
  clear ha hb
  generalize hlen : l.length = n at *
  have HN := Lib.hid hlen
  clear hlen
  subst eva evb
  go_enter Tryd.func17, Tryd.ntmps17
  go_wp2
  go_loopw [13] (fun vi wr => ∃ i : Nat, i ≤ n ∧ vi = .int .i64 i ∧ ∃ k, wr = w.drewN k) (fun i _ => n - (intOf i).toNat)
  case atStart => exact ⟨0, by omega, rfl, 0, rfl⟩
  case round =>
    obtain ⟨i, hi, rfl, k, rfl⟩ := hrel
    by_cases hlt : i < n
    · obtain ⟨b1, o1, c1, ev1, _, hl1, _, _, h1⟩ := kps_cells (l := l) (by rw [HN.out]; exact HA.out) (by rw [HN.out]; omega)
      obtain ⟨b2, o2, c2, ev2, _, hl2, _, _, h2⟩ := kps_cells (l := l) (by rw [HN.out]; exact HB.out) (by rw [HN.out]; omega)
      injection ev1 with e1 e1' e1''
      injection ev2 with e2 e2' e2''
      clear e1' e2'
      subst e1 e1'' e2 e2''
      obtain ⟨p0, p1, p2⟩ := h1 i (by rw [HN.out]; exact hlt)
      obtain ⟨q0, q1, q2⟩ := h2 i (by rw [HN.out]; exact hlt)
      generalize l.getD i default = x at *
      clear h1 h2
      obtain ⟨xx, xy, xw⟩ := x
      dsimp only at p0 p1 p2 q0 q1 q2
      have hne : ∀ W, (binOp .neq 35 (.agg #[.int .i64 xx, .int .i64 xy, .int .i64 xw]) (.agg #[.int .i64 xx, .int .i64 xy, .int .i64 xw])).run Tryd.prog W = .ok (.bool false) W := fun W => by
        simp [go_sem]
      go_wp2
      go_region
      go_wp2
      go_roundw
      case rel => exact ⟨i + 1, by omega, by go_num, k + 1, rfl⟩
      case measure => simp [intOf]; omega
    · obtain rfl : i = n := by omega
      go_wp2
      go_ret
      exact ⟨rfl, below_drewN (Below.refl _ w) k⟩
end Go.Proofs.YtefkglmdkjkbiaaDoor
