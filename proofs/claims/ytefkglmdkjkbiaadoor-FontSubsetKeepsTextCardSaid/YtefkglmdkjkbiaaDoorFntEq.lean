/- slices.Equal at ranges and at pairs, of two slices that read as one list. slices.Equal at points, and slices.EqualFunc at contours with the closure that asks it: of two slices that read as one list. -/
import Derived.Test.YtefkglmdkjkbiaaDoorFntMem
import Derived.Deep.DeepMust
import Derived.RegionTactic
import Derived.BigRegion
namespace Go.Proofs.YtefkglmdkjkbiaaDoor
open Go.RowKit Fnt
set_option maxRecDepth 100000 in
set_option maxHeartbeats 4000000 in
theorem equal_rg (va vb : Value) (l : List Rg) (ok ok' : Nat → Prop) (w : World) (ha : SlM w ok va l.length (l.flatMap rgc)) (hb : SlM w ok' vb l.length (l.flatMap rgc)) (hn : l.length ≤ 100000) :
    Calls Tryd.prog 16 #[va, vb] w fun e w' => e = .returned (.bool true) ∧ Below w.heap.size w w' := by
  have HA := Lib.hid ha
  have HB := Lib.hid hb
  obtain ⟨Aa, ca, eva⟩ := SlM.form ha
  obtain ⟨Ab, cb, evb⟩ := SlM.form hb
  clear ha hb
  generalize hlen : l.length = n at *
  have HN := Lib.hid hlen
  clear hlen
  subst eva evb
  go_enter Tryd.func16, Tryd.ntmps16
  go_wp2
  go_loopw [13] (fun vi wr => ∃ i : Nat, i ≤ n ∧ vi = .int .i64 i ∧ ∃ k, wr = w.drewN k) (fun i _ => n - (intOf i).toNat)
  case atStart => exact ⟨0, by omega, rfl, 0, rfl⟩
  case round =>
    obtain ⟨i, hi, rfl, k, rfl⟩ := hrel
    by_cases hlt : i < n
    · obtain ⟨b1, o1, c1, ev1, _, hl1, _, _, h1⟩ := rgs_cells (l := l) (by rw [HN.out]; exact HA.out) (by rw [HN.out]; omega)
      obtain ⟨b2, o2, c2, ev2, _, hl2, _, _, h2⟩ := rgs_cells (l := l) (by rw [HN.out]; exact HB.out) (by rw [HN.out]; omega)
      injection ev1 with e1 e1' e1''
      injection ev2 with e2 e2' e2''
      clear e1' e2'
      subst e1 e1'' e2 e2''
      obtain ⟨p0, p1, p2⟩ := h1 i (by rw [HN.out]; exact hlt)
      obtain ⟨q0, q1, q2⟩ := h2 i (by rw [HN.out]; exact hlt)
      generalize l.getD i default = x at *
      clear h1 h2
      obtain ⟨xx, xy, xw⟩ := x
      dsimp only at p0 p1 p2 q0 q1 q2
      have hne : ∀ W, (binOp .neq 49 (.agg #[.int .i64 xx, .int .i64 xy, .int .i64 xw]) (.agg #[.int .i64 xx, .int .i64 xy, .int .i64 xw])).run Tryd.prog W = .ok (.bool false) W := fun W => by
        simp [go_sem]
      go_wp2
      go_region
      go_wp2
      go_roundw
      case rel => exact ⟨i + 1, by omega, by go_num, k + 1, rfl⟩
      case measure => simp [intOf]; omega
    · obtain rfl : i = n := by omega
      go_wp2
      go_ret
      exact ⟨rfl, below_drewN (Below.refl _ w) k⟩
set_option maxRecDepth 100000 in
set_option maxHeartbeats 4000000 in
theorem equal_kp (va vb : Value) (l : List Kp) (ok ok' : Nat → Prop) (w : World) (ha : SlM w ok va l.length (l.flatMap kpc)) (hb : SlM w ok' vb l.length (l.flatMap kpc)) (hn : l.length ≤ 100000) :
    Calls Tryd.prog 17 #[va, vb] w fun e w' => e = .returned (.bool true) ∧ Below w.heap.size w w' := by
  have HA := Lib.hid ha
  have HB := Lib.hid hb
  obtain ⟨Aa, ca, eva⟩ := SlM.form ha
  obtain ⟨Ab, cb, evb⟩ := SlM.form hb
  clear ha hb
  generalize hlen : l.length = n at *
  have HN := Lib.hid hlen
  clear hlen
  subst eva evb
  go_enter Tryd.func17, Tryd.ntmps17
  go_wp2
  go_loopw [13] (fun vi wr => ∃ i : Nat, i ≤ n ∧ vi = .int .i64 i ∧ ∃ k, wr = w.drewN k) (fun i _ => n - (intOf i).toNat)
  case atStart => exact ⟨0, by omega, rfl, 0, rfl⟩
  case round =>
    obtain ⟨i, hi, rfl, k, rfl⟩ := hrel
    by_cases hlt : i < n
    · obtain ⟨b1, o1, c1, ev1, _, hl1, _, _, h1⟩ := kps_cells (l := l) (by rw [HN.out]; exact HA.out) (by rw [HN.out]; omega)
      obtain ⟨b2, o2, c2, ev2, _, hl2, _, _, h2⟩ := kps_cells (l := l) (by rw [HN.out]; exact HB.out) (by rw [HN.out]; omega)
      injection ev1 with e1 e1' e1''
      injection ev2 with e2 e2' e2''
      clear e1' e2'
      subst e1 e1'' e2 e2''
      obtain ⟨p0, p1, p2⟩ := h1 i (by rw [HN.out]; exact hlt)
      obtain ⟨q0, q1, q2⟩ := h2 i (by rw [HN.out]; exact hlt)
      generalize l.getD i default = x at *
      clear h1 h2
      obtain ⟨xx, xy, xw⟩ := x
      dsimp only at p0 p1 p2 q0 q1 q2
      have hne : ∀ W, (binOp .neq 35 (.agg #[.int .i64 xx, .int .i64 xy, .int .i64 xw]) (.agg #[.int .i64 xx, .int .i64 xy, .int .i64 xw])).run Tryd.prog W = .ok (.bool false) W := fun W => by
        simp [go_sem]
      go_wp2
      go_region
      go_wp2
      go_roundw
      case rel => exact ⟨i + 1, by omega, by go_num, k + 1, rfl⟩
      case measure => simp [intOf]; omega
    · obtain rfl : i = n := by omega
      go_wp2
      go_ret
      exact ⟨rfl, below_drewN (Below.refl _ w) k⟩
end Go.Proofs.YtefkglmdkjkbiaaDoor
namespace Go.Proofs.YtefkglmdkjkbiaaDoor
open Go.RowKit Fnt
set_option maxRecDepth 100000 in
set_option maxHeartbeats 4000000 in
theorem equal_pts (va vb : Value) (l : List Pt) (ok ok' : Nat → Prop) (w : World) (ha : Pts w ok va l) (hb : Pts w ok' vb l) :
    Calls Tryd.prog 24 #[va, vb] w fun e w' => e = .returned (.bool true) ∧ Below w.heap.size w w' := by
  have HA := Lib.hid ha
  have HB := Lib.hid hb
  obtain ⟨Aa, ca, eva⟩ := SlM.form ha
  obtain ⟨Ab, cb, evb⟩ := SlM.form hb
  subst eva evb
  have hcap := (SlM.caps ha).2
  unfold maxLen at hcap
  clear ha hb
  generalize hlen : l.length = n at *
  have HN := Lib.hid hlen
  clear hlen
  go_enter Tryd.func24, Tryd.ntmps24
  go_wp2
  go_loopw [5, 13] (fun _ vi wr => ∃ i : Nat, i ≤ n ∧ vi = .int .i64 i ∧ ∃ k, wr = w.drewN k) (fun _ i _ => n - (intOf i).toNat)
  case atStart => exact ⟨0, by omega, rfl, 0, rfl⟩
  case round =>
    obtain ⟨i, hi, rfl, k, rfl⟩ := hrel
    by_cases hlt : i < n
    · obtain ⟨b1, o1, c1, ev1, _, hl1, _, _, h1⟩ := Pts.cells HA.out (by rw [HN.out]; omega)
      obtain ⟨b2, o2, c2, ev2, _, hl2, _, _, h2⟩ := Pts.cells HB.out (by rw [HN.out]; omega)
      injection ev1 with e1 e1' e1''
      injection ev2 with e2 e2' e2''
      clear e1' e2'
      subst e1 e1'' e2 e2''
      obtain ⟨p0, p1, p2⟩ := h1 i (by rw [HN.out]; exact hlt)
      obtain ⟨q0, q1, q2⟩ := h2 i (by rw [HN.out]; exact hlt)
      generalize pt l i = x at *
      clear h1 h2
      obtain ⟨xx, xy, xw⟩ := x
      dsimp only at p0 p1 p2 q0 q1 q2
      have hne : ∀ W, (binOp .neq 64 (.agg #[.int .i64 xx, .int .i64 xy, .bool xw]) (.agg #[.int .i64 xx, .int .i64 xy, .bool xw])).run Tryd.prog W = .ok (.bool false) W := fun W => by
        simp [go_sem]
      go_wp2
      go_region
      go_wp2
      go_roundw
      case rel => exact ⟨i + 1, by omega, by go_num, k + 1, rfl⟩
      case measure => simp [intOf]; omega
    · obtain rfl : i = n := by omega
      go_wp2
      go_ret
      exact ⟨rfl, below_drewN (Below.refl _ w) k⟩
set_option maxRecDepth 100000 in
set_option maxHeartbeats 4000000 in
theorem keep_clo (va vb : Value) (l : List Pt) (ok ok' : Nat → Prop) (w : World) (ha : Pts w ok va l) (hb : Pts w ok' vb l) :
    Calls Tryd.prog 23 #[va, vb] w fun e w' => e = .returned (.bool true) ∧ Below w.heap.size w w' := by
  have HC := Lib.hid (equal_pts va vb l ok ok' w ha hb)
  obtain ⟨Aa, ca, eva⟩ := SlM.form ha
  obtain ⟨Ab, cb, evb⟩ := SlM.form hb
  subst eva evb
  clear ha hb
  go_enter Tryd.func23, Tryd.ntmps23
  go_wp2_with fail
  refine HC.out.mono ?_
  rintro e w1 ⟨rfl, hb1⟩
  go_wp2_with fail
  go_ret
  exact ⟨rfl, hb1⟩
set_option maxRecDepth 100000 in
set_option maxHeartbeats 4000000 in
theorem equal_con (va vb : Value) (cs : List (List Pt)) (ok ok' : Nat → Prop) (w : World) (ha : Cons w ok va cs) (hb : Cons w ok' vb cs) :
    Calls Tryd.prog 22 #[va, vb, .func (.func 23) #[] #[]] w fun e w' => e = .returned (.bool true) ∧ Below w.heap.size w w' := by
  have HA := Lib.hid ha
  have HB := Lib.hid hb
  obtain ⟨Aa, ca, eva, hq1, hq2⟩ : ∃ A c, va = .slice A cs.length c ∧ cs.length ≤ c ∧ c ≤ maxLen := by
    obtain ⟨vs, ⟨A, c, e, a, b, _⟩, _⟩ := ha
    exact ⟨A, c, e, a, b⟩
  obtain ⟨Ab, cb, evb⟩ : ∃ A c, vb = .slice A cs.length c := by
    obtain ⟨vs, ⟨A, c, e, a, b, _⟩, _⟩ := hb
    exact ⟨A, c, e⟩
  subst eva evb
  unfold maxLen at hq2
  clear ha hb
  generalize hlen : cs.length = n at *
  have HN := Lib.hid hlen
  clear hlen
  go_enter Tryd.func22, Tryd.ntmps22
  go_wp2
  go_loopw [7, 8, 9, 17] (fun _ _ _ vi wr => ∃ i : Nat, i ≤ n ∧ vi = .int .i64 i ∧ Below w.heap.size w wr) (fun _ _ _ i _ => n - (intOf i).toNat)
  case atStart => exact ⟨0, by omega, rfl, Below.refl _ _⟩
  case round =>
    obtain ⟨i, hi, rfl, hbl⟩ := hrel
    have HBl := Lib.hid hbl
    by_cases hlt : i < n
    · obtain ⟨b1, o1, c1, us1, ev1, _, hl1, _, _, h1⟩ := Cons.cells (HA.out.keep hbl.size fun b _ hl => hbl.block b hl) (by rw [HN.out]; omega)
      obtain ⟨b2, o2, c2, us2, ev2, _, hl2, _, _, h2⟩ := Cons.cells (HB.out.keep hbl.size fun b _ hl => hbl.block b hl) (by rw [HN.out]; omega)
      injection ev1 with e1 e1' e1''
      injection ev2 with e2 e2' e2''
      clear e1' e2'
      subst e1 e1'' e2 e2''
      obtain ⟨p0, hp1⟩ := h1 i (by rw [HN.out]; exact hlt)
      obtain ⟨q0, hq3⟩ := h2 i (by rw [HN.out]; exact hlt)
      have HC := Lib.hid (keep_clo _ _ _ _ _ wr hp1 hq3)
      obtain ⟨A3, c3, e3⟩ := SlM.form hp1
      obtain ⟨A4, c4, e4⟩ := SlM.form hq3
      generalize us1 i = u1 at *
      generalize us2 i = u2 at *
      subst e3 e4
      clear h1 h2 hp1 hq3 hbl
      go_wp2_with fail
      refine HC.out.mono ?_
      rintro e w1 ⟨rfl, hb1⟩
      have HB1 := Lib.hid (HBl.out.trans (hb1.mono HBl.out.size))
      clear hb1
      go_wp2_with fail
      go_roundw
      case rel => exact ⟨i + 1, by omega, by go_num, HB1.out⟩
      case measure => simp [intOf]; omega
    · obtain rfl : i = n := by omega
      go_wp2
      go_ret
      exact ⟨rfl, HBl.out⟩
end Go.Proofs.YtefkglmdkjkbiaaDoor
