/- slices.Equal at marks and at bytes, of two slices that read as one list. -/
import Derived.Test.YtjcijogdcafloaaPlateW
import Derived.Deep.DeepMust
namespace Go.Proofs.Ytjcijogdcafloaa
open Go.RowKit
set_option maxRecDepth 100000 in
set_option maxHeartbeats 4000000 in
theorem equal_mk (va vb : Value) (l : List Mk) (ok ok' : Nat → Prop) (w : World) (ha : MkV w ok va l) (hb : MkV w ok' vb l) (hn : l.length ≤ 100000) :
    Calls Try.prog 15 #[va, vb] w fun e w' => e = .returned (.bool true) ∧ Below w.heap.size w w' := by
  have HA := Lib.hid ha
  have HB := Lib.hid hb
  obtain ⟨Aa, ca, eva⟩ := SlM.form ha
  obtain ⟨Ab, cb, evb⟩ := SlM.form hb
  clear ha hb
  generalize hlen : l.length = n at *
  have HN := Lib.hid hlen
  clear hlen
  subst eva evb
  go_enter Try.func15, Try.ntmps15
  go_wp2
  go_loopw [13] (fun vi wr => ∃ i : Nat, i ≤ n ∧ vi = .int .i64 i ∧ ∃ k, wr = w.drewN k) (fun i _ => n - (intOf i).toNat)
  case atStart => exact ⟨0, by omega, rfl, 0, rfl⟩
  case round =>
    obtain ⟨i, hi, rfl, k, rfl⟩ := hrel
    by_cases hlt : i < n
    · obtain ⟨b1, o1, c1, ev1, _, hl1, _, _, h1⟩ := MkV.cells HA.out (by rw [HN.out]; omega)
      obtain ⟨b2, o2, c2, ev2, _, hl2, _, _, h2⟩ := MkV.cells HB.out (by rw [HN.out]; omega)
      injection ev1 with e1 e1' e1''
      injection ev2 with e2 e2' e2''
      clear e1' e2'
      subst e1 e1'' e2 e2''
      obtain ⟨p0, p1, p2, p3⟩ := h1 i (by rw [HN.out]; exact hlt)
      obtain ⟨q0, q1, q2, q3⟩ := h2 i (by rw [HN.out]; exact hlt)
      generalize mkN l i = x at *
      clear h1 h2
      obtain ⟨xx, xy, xw, xh⟩ := x
      dsimp only at p0 p1 p2 p3 q0 q1 q2 q3
      have hne : ∀ W, (binOp .neq 48 (.agg #[.int .i64 xx, .int .i64 xy, .int .i64 xw, .int .i64 xh]) (.agg #[.int .i64 xx, .int .i64 xy, .int .i64 xw, .int .i64 xh])).run Try.prog W = .ok (.bool false) W := fun W => by
        simp [go_sem]
      go_wp2
      go_region
      go_wp2
      go_roundw
      case rel => exact ⟨i + 1, by omega, by go_num, k + 1, rfl⟩
      case measure => simp [intOf]; omega
    · obtain rfl : i = n := by omega
      go_wp2
      go_ret
      exact ⟨rfl, below_drewN (Below.refl _ w) k⟩
set_option maxRecDepth 100000 in
set_option maxHeartbeats 4000000 in
theorem equal_bytes (va vb : Value) (l : List UInt8) (ok ok' : Nat → Prop) (w : World) (ha : Sl w ok va (byts l)) (hb : Sl w ok' vb (byts l)) (hn : l.length ≤ 2000000) :
    Calls Try.prog 18 #[va, vb] w fun e w' => e = .returned (.bool true) ∧ Below w.heap.size w w' := by
  have HA := Lib.hid ha
  have HB := Lib.hid hb
  obtain ⟨Aa, ca, eva⟩ := ha.form
  obtain ⟨Ab, cb, evb⟩ := hb.form
  rw [byts_length] at eva evb
  clear ha hb
  generalize hlen : l.length = n at *
  have HN := Lib.hid hlen
  clear hlen
  subst eva evb
  go_enter Try.func18, Try.ntmps18
  go_wp2
  go_loopw [13] (fun vi wr => ∃ i : Nat, i ≤ n ∧ vi = .int .i64 i ∧ ∃ k, wr = w.drewN k) (fun i _ => n - (intOf i).toNat)
  case atStart => exact ⟨0, by omega, rfl, 0, rfl⟩
  case round =>
    obtain ⟨i, hi, rfl, k, rfl⟩ := hrel
    by_cases hlt : i < n
    · obtain ⟨b1, o1, rfl, _, h1⟩ := HA.out.plainA (by rw [byts_length, HN.out]; omega)
      obtain ⟨b2, o2, rfl, _, h2⟩ := HB.out.plainA (by rw [byts_length, HN.out]; omega)
      have hx : (byts l)[i]? = some (.int .u8 ((l.getD i 0).toNat : Int)) := by
        unfold byts; rw [List.getElem?_map, List.getElem?_eq_getElem (by rw [HN.out]; exact hlt), List.getD_eq_getElem?_getD, List.getElem?_eq_getElem (by rw [HN.out]; exact hlt)]; rfl
      have p0 := h1 i _ hx
      have q0 := h2 i _ hx
      generalize l.getD i 0 = x at *
      clear h1 h2 hx
      go_wp2
      go_region
      all_goals
        go_wp2
        go_roundw
        case rel => exact ⟨i + 1, by omega, by go_num, k + 1, rfl⟩
        case measure => simp [intOf]; omega
    · obtain rfl : i = n := by omega
      go_wp2
      go_ret
      exact ⟨rfl, below_drewN (Below.refl _ w) k⟩
end Go.Proofs.Ytjcijogdcafloaa
