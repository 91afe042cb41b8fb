/- slices.Backward over leaves: the last one first. -/
import Derived.Test.YtjmanooedgfbaaaDoorFoldMem
import Derived.RangeFuncNested
import Derived.RangeFuncBound
import Derived.RangeFuncCalls
import Derived.RangeFuncLeaves
import Derived.Shelf.Abstract
import Derived.Shelf.RegionOpen
import Derived.OwnWalkIn
import Derived.TacticsInMore
import Derived.LoopNIn
import Derived.LoopIn
namespace Go.Proofs.YtjmanooedgfbaaaDoor
open Go.RowKit Go.Shelf
attribute [local go_sem] Oper.semAt_some
/-- What has come when k rounds are over, of n leaves. -/
def bkTo (l : List Leaf) (n k : Nat) : List (Nat × Leaf) := (List.range k).map fun j => (n - 1 - j, lf l (n - 1 - j))
theorem bkTo_succ (l : List Leaf) (n k : Nat) : bkTo l n (k + 1) = bkTo l n k ++ [(n - 1 - k, lf l (n - 1 - k))] := by simp [bkTo, List.range_succ]
theorem bkTo_length (l : List Leaf) (n k : Nat) : (bkTo l n k).length = k := by simp [bkTo]
theorem bkTo_all (l : List Leaf) : (bkTo l l.length l.length).map (·.2) = l.reverse := by
  apply List.ext_getElem
  · simp [bkTo]
  · intro i h1 h2
    simp only [bkTo, List.map_map, List.getElem_map, List.getElem_range, Function.comp, List.getElem_reverse]
    exact lf_eq l _
/-- What a round keeps: what lay below n₀, and the box of the slice. -/
def KpB (n₀ Bs : Nat) (W W' : World) : Prop := Below n₀ W W' ∧ ∀ v, Boxed W Bs 58 v → Boxed W' Bs 58 v
theorem KpB.refl (n₀ Bs : Nat) (W : World) : KpB n₀ Bs W W := ⟨Below.refl _ _, fun _ h => h⟩
theorem KpB.trans {n₀ Bs : Nat} {A B C : World} (h : KpB n₀ Bs A B) (k : KpB n₀ Bs B C) : KpB n₀ Bs A C := ⟨h.1.trans k.1, fun v hv => k.2 v (h.2 v hv)⟩
theorem KpB.obj {n₀ Bs : Nat} {w : World} (hn : n₀ ≤ w.heap.size) : ∀ (W : World) (l : Nat) (o o' : Obj), w.heap.size ≤ l → W.heap[l]? = some o → o.isCells = false → o.isWalk = false → KpB n₀ Bs W (W.putObj l o') := by
  intro W l o o' h1 h2 h3 h4
  refine ⟨belowK_b hn W l o o' h1 h2 h3 h4, fun v hv => hv.kept (grownBy_putObj' W l o') fun e => ?_⟩
  injection e with e
  subst e
  rw [show W.heap[Bs]? = _ from hv] at h2; cases h2; cases h3
set_option maxRecDepth 100000 in
set_option maxHeartbeats 2000000 in
theorem back1_in (F : Fence) (n : Nat) (h7 : F.fn 48) (hro : F.round = none) (hn : 1 ≤ n) (lo Bs n₀ b off cap : Nat) (l : List Leaf) (len : Nat) (hl : l.length = len) (hreach : len ≤ 1000000) (hb : b < n₀) (J Jx : List (Nat × Leaf) → World → Prop)
    (hY : ∀ pre x W, J pre W → pre.length < len → YieldAt F (n - 1) Tryd.prog lo #[.int .i64 (x.1 : Int), .agg #[.int .i64 (x.2.c : Int), .int .i64 (x.2.r : Int), .bool x.2.fx, .bool x.2.fy]] W fun e W' =>
      (e = .returned (.bool true) ∧ J (pre ++ [x]) W' ∧ KpB n₀ Bs W W') ∨ (e = .returned (.bool false) ∧ Jx (pre ++ [x]) W'))
    (W : World) (hBs : Boxed W Bs 58 (.slice (some ⟨b, off, none⟩) len cap))
    (hc : ∀ i, i < len → W.cell? ⟨b, off + i * 4, none⟩ = some (.int .i64 ((lf l i).c : Int)) ∧ W.cell? ⟨b, off + i * 4 + 1, none⟩ = some (.int .i64 ((lf l i).r : Int)) ∧ W.cell? ⟨b, off + i * 4 + 2, none⟩ = some (.bool (lf l i).fx) ∧ W.cell? ⟨b, off + i * 4 + 3, none⟩ = some (.bool (lf l i).fy)) (h0 : J [] W) :
    CallsIn F n Tryd.prog 48 #[.func (.yield lo) #[] #[], .pointer (some ⟨Bs, 0, none⟩)] W fun e W' => (∃ v, e = .returned v) ∧
      ((∃ ys, ys = bkTo l len len ∧ J ys W') ∨ (∃ pre, (∃ k, k ≤ len ∧ pre = bkTo l len k) ∧ Jx pre W')) := by
  have hcs := hBs.cell
  have HBs := Lib.hid hBs
  have HC := Lib.hid hc
  have HL := Lib.hid hl
  clear hBs hc hl
  refine callsIn_of_wp Tryd.func48 rfl h7 ?_ hro
  simp only [Tryd.ntmps48, List.size_toArray, List.length_cons, List.length_nil, Nat.reduceAdd, Nat.reduceSub, Array.replicate_succ, Array.replicate_zero, List.push_toArray, List.append_toArray, List.nil_append, List.cons_append]
  gi_wp2
  clear hcs
  gi_loopw [3] (fun i wr => ∃ m : Nat, m ≤ len ∧ i = .int .i64 ((m : Int) - 1) ∧ J (bkTo l len (len - m)) wr ∧ KpB n₀ Bs W wr)
    (fun i _ => (intOf i + 1).toNat)
  case atStart => exact ⟨len, by omega, rfl, by rw [Nat.sub_self]; exact h0, KpB.refl _ _ _⟩
  case round =>
    obtain ⟨m, hm, rfl, hJs, hnx⟩ := hrel
    cases m with
    | zero =>
      gi_wp2
      go_end0
      exact ⟨⟨_, rfl⟩, .inl ⟨_, rfl, by simpa using hJs⟩⟩
    | succ q =>
      rw [show ((q + 1 : Nat) : Int) - 1 = (q : Int) by omega]
      obtain ⟨c0, c1, c2, c3⟩ := HC.out q (by omega)
      have d0 := (hnx.1.cell (p := ⟨b, off + q * 4, none⟩) hb).trans c0
      have d1 := (hnx.1.cell (p := ⟨b, off + q * 4 + 1, none⟩) hb).trans c1
      have d2 := (hnx.1.cell (p := ⟨b, off + q * 4 + 2, none⟩) hb).trans c2
      have d3 := (hnx.1.cell (p := ⟨b, off + q * 4 + 3, none⟩) hb).trans c3
      have dB := (hnx.2 _ HBs.out).cell
      obtain ⟨fn, tmps, assign, body, hy, hR⟩ := hY _ (q, lf l q) wr hJs (by rw [bkTo_length]; omega)
      dsimp only at hy
      have HR := Lib.hid hR
      have HJ := Lib.hid hJs
      have HN := Lib.hid hnx
      clear c0 c1 c2 c3 hR hJs hnx
      gi_wp2
      refine HR.out.mono ?_
      rintro e W3 (⟨rfl, hJ3, hk3⟩ | ⟨rfl, hJx3⟩)
      · have HJ3 := Lib.hid hJ3
        have HK3 := Lib.hid hk3
        clear hJ3 hk3
        gi_wp2
        go_roundw
        case rel => 
          refine ⟨q, by omega, rfl, ?_, HN.out.trans HK3.out⟩
          have := HJ3.out
          rw [show len - q = (len - (q + 1)) + 1 by omega, bkTo_succ, show len - 1 - (len - (q + 1)) = q by omega]; exact this
        case measure => simp [intOf]
      · gi_wp2
        refine bodyPost_ret (results_none rfl _ _ _) rfl ?_
        refine ⟨⟨_, rfl⟩, .inr ⟨_, ⟨len - q, by omega, rfl⟩, ?_⟩⟩
        rw [show len - q = (len - (q + 1)) + 1 by omega, bkTo_succ, show len - 1 - (len - (q + 1)) = q by omega]; exact hJx3
set_option maxRecDepth 100000 in
set_option maxHeartbeats 1000000 in
theorem back1_nil_in (F : Fence) (n : Nat) (h7 : F.fn 48) (hro : F.round = none) (lo Bs cap : Nat) (A : Option Addr) (J : List (Nat × Leaf) → World → Prop) (W : World) (hBs : W.cell? ⟨Bs, 0, none⟩ = some (.slice A 0 cap)) (h0 : J [] W) :
    CallsIn F n Tryd.prog 48 #[.func (.yield lo) #[] #[], .pointer (some ⟨Bs, 0, none⟩)] W fun e W' => (∃ v, e = .returned v) ∧ J [] W' := by
  refine callsIn_of_wp Tryd.func48 rfl h7 ?_ hro
  simp only [Tryd.ntmps48, List.size_toArray, List.length_cons, List.length_nil, Nat.reduceAdd, Nat.reduceSub, Array.replicate_succ, Array.replicate_zero, List.push_toArray, List.append_toArray, List.nil_append, List.cons_append]
  gi_wp2
  gi_loopw [3] (fun i wr => i = .int .i64 (-1) ∧ J [] wr) (fun _ _ => 0)
  case atStart => exact ⟨rfl, h0⟩
  case round =>
    obtain ⟨rfl, hJs⟩ := hrel
    gi_wp2
    go_end0
    exact ⟨⟨_, rfl⟩, hJs⟩
set_option maxHeartbeats 1000000 in
theorem back_in (F : Fence) (n : Nat) (h5 : F.fn 38) (hro : F.round = none) (a : Option Addr) (len cap : Nat) (w : World) :
    CallsIn F n Tryd.prog 38 #[.slice a len cap] w fun e w' => e = .returned (.func (.func 48) #[] #[.pointer (some ⟨w.heap.size, 0, none⟩)]) ∧ w' = w.alloc (.cells #[.slice a len cap] 58) := by
  refine callsIn_of_wp Tryd.func38 rfl h5 ?_ hro
  simp only [Tryd.ntmps38, List.size_toArray, List.length_cons, List.length_nil, Nat.reduceAdd, Nat.reduceSub, Array.replicate_succ, Array.replicate_zero, List.push_toArray, List.append_toArray, List.nil_append, List.cons_append]
  gi_wp2
  go_ret
  exact ⟨rfl, rfl⟩
theorem back_stops (F : Fence) (n : Nat) (h7 : F.fn 48) (hro : F.round = none) (hn : 1 ≤ n) (Bs n₀ : Nat) (A : Option Addr) (c : Nat) (l : List Leaf) (hreach : l.length ≤ 1000000) (w : World) (hBs : Bs < w.heap.size) (hn₀ : n₀ ≤ w.heap.size)
    (hc : Boxed w Bs 58 (.slice A l.length c)) (hI : Lv w (fun b => b < n₀) (.slice A l.length c) l) :
    SeqStopsK F n Tryd.prog 48 #[.pointer (some ⟨Bs, 0, none⟩)] (fun x : Nat × Leaf => #[Value.int .i64 (x.1 : Int), .agg #[.int .i64 (x.2.c : Int), .int .i64 (x.2.r : Int), .bool x.2.fx, .bool x.2.fy]]) (KpB n₀ Bs) (fun ys => ys = bkTo l l.length l.length)
      (fun pre => ∃ k, k ≤ l.length ∧ pre = bkTo l l.length k) l.length w := fun lo J Jx W hW _ _ hY h0 => by
  have hW' := hW.mono hn₀
  have hc' : Boxed W Bs 58 (.slice A l.length c) := (hW.block Bs hBs).trans hc
  rcases Nat.eq_zero_or_pos l.length with h | h
  · rw [h] at hc'
    refine (back1_nil_in F n h7 hro lo Bs c A J W hc'.cell h0).mono fun e W' ⟨he, hj⟩ => ⟨he, .inl ⟨[], by rw [h]; rfl, hj⟩⟩
  · obtain ⟨b, off, cap, hv, hb, hlt, _, _, hcs⟩ := hI.cells4 h
    injection hv with e1 _ e3
    subst e1; subst e3
    exact back1_in F n h7 hro hn lo Bs n₀ b off c l l.length rfl hreach hb J Jx hY W hc'
      (fun i hi => by obtain ⟨c0, c1, c2, c3⟩ := hcs i hi; exact ⟨(hW'.cell (p := ⟨b, off + i * 4, none⟩) hb).trans c0, (hW'.cell (p := ⟨b, off + i * 4 + 1, none⟩) hb).trans c1, (hW'.cell (p := ⟨b, off + i * 4 + 2, none⟩) hb).trans c2, (hW'.cell (p := ⟨b, off + i * 4 + 3, none⟩) hb).trans c3⟩) h0
end Go.Proofs.YtjmanooedgfbaaaDoor
