/- The walk of Stack: how numbered copies are laid on sheets. -/
import Derived.Test.YtcbnelklilamgaaWithin
import Derived.Deep.DeepMust
namespace Go.Proofs.Ytcbnelklilamgaa
open Go.RowKit
theorem eInt : ElemT Try.prog 27 3 (.int .i64 0) 8 := ElemT.mk_ Try.underlying27 (by kernel_rfl) rfl
theorem eRow : ElemT Try.prog 22 27 (.slice none 0 0) 24 := ElemT.mk_ Try.underlying22 (by kernel_rfl) rfl
/-- Sheet s, place p. -/
def st (c m p s : Nat) : Int := if (p * m + s + 1 : Nat) > c then 0 else ((p * m + s + 1 : Nat) : Int)
def stRow (c m n s : Nat) : List Value := (List.range n).map fun p => .int .i64 (st c m p s)
def sheets (c n : Nat) : Nat := (c + n - 1) / n
def IsStack (w : World) (ok : Nat → Prop) (c n : Nat) (vals : List Value) : Prop := ∀ s u, vals[s]? = some u → Sl w ok u (stRow c (sheets c n) n s)
theorem stRow_succ (c m n s : Nat) : stRow c m (n + 1) s = stRow c m n s ++ [.int .i64 (st c m n s)] := by simp [stRow, List.range_succ]
theorem stack_in {wo wr w1 : World} {c m n p s : Nat} {u9 v' : Value} {z : Int} (ho : wr.ownsRow wo.heap.size 3 1 u9 p (stRow c m p s)) (hb : Below wo.heap.size wo wr)
    (hown1 : w1.ownsRow wo.heap.size 3 1 v' (p + 1) (stRow c m p s ++ [.int .i64 z])) (hg1 : (wr.alloc (Obj.cells #[Value.int .i64 z] 3)).grownBy w1 u9.ownBlock) (hp : p < n) (hz : st c m p s = z) :
    ∃ p_1 : Nat, p_1 ≤ n ∧ Value.int .i64 ((p : Int) + 1) = .int .i64 (p_1 : Int) ∧ w1.ownsRow wo.heap.size 3 1 v' p_1 (stRow c m p_1 s) ∧ Below wo.heap.size wo w1 := by
  refine ⟨p + 1, by omega, by go_num, by rw [stRow_succ, hz]; exact hown1, ?_⟩
  refine (hb.alloc hb.size _).grown hg1 (le_alloc hb.size _) fun k hk => ?_
  rcases ho.2 with ⟨rfl, _⟩ | ⟨g, cap, cur, rfl, hg, _⟩
  · simp [Value.ownBlock] at hk
  · simp [Value.ownBlock] at hk; omega
theorem stack_out {w wo wr w1 : World} {c m n s : Nat} {u7 u9 v' : Value} {vals : List Value} {ob : Obj} (hs : s < m) (hl : vals.length = s) (ho : wo.ownsRow w.heap.size 27 1 u7 s vals) (hb : Below w.heap.size w wo)
    (hall : ∀ i u, vals[i]? = some u → Sl wo (fun b => some b ≠ u7.ownBlock) u (stRow c m n i)) (hb2 : Below wo.heap.size wo wr) (hin : wr.ownsRow wo.heap.size 3 1 u9 n (stRow c m n s))
    (hown1 : w1.ownsRow w.heap.size 27 1 v' (s + 1) (vals ++ [u9])) (hg1 : (wr.alloc ob).grownBy w1 u7.ownBlock) (hk1 : v'.ownBlock = u7.ownBlock ∨ v'.ownBlock = some (wr.alloc ob).heap.size) :
    ∃ (s1 : Nat) (vals1 : List Value), s1 ≤ m ∧ Value.int .i64 ((s : Int) + 1) = .int .i64 (s1 : Int) ∧ vals1.length = s1 ∧ w1.ownsRow w.heap.size 27 1 v' s1 vals1 ∧ Below w.heap.size w w1 ∧
      ∀ i u, vals1[i]? = some u → Sl w1 (fun b => some b ≠ v'.ownBlock) u (stRow c m n i) := by
  have hsz : w.heap.size ≤ wr.heap.size := Nat.le_trans hb.size hb2.size
  refine ⟨s + 1, vals ++ [u9], by omega, by go_num, by simp [hl], hown1, ?_, fun i u hu => ?_⟩
  · exact ((hb.trans (hb2.mono hb.size)).alloc hsz _).grown hg1 (le_alloc hsz _) fun k hk => (own_lt ho k hk).1
  · have key : Sl (wr.alloc ob) (fun b => some b ≠ u7.ownBlock ∧ some b ≠ v'.ownBlock) u (stRow c m n i) := by
      rcases Nat.lt_or_ge i vals.length with hi | hi
      · rw [List.getElem?_append_left hi] at hu
        have h1 := ((hall i u hu).later hb2)
        have h2 : Sl (wr.alloc ob) (fun b => some b ≠ u7.ownBlock ∧ b < wr.heap.size) u (stRow c m n i) := (h1.mono (ok' := fun b => some b ≠ u7.ownBlock ∧ b < wr.heap.size) fun b hb' h => ⟨h, hb'⟩).alloc ob
        refine h2.mono fun b _ ⟨h, hlt⟩ => ⟨h, ?_⟩
        rcases hk1 with e | e
        · rw [e]; exact h
        · rw [e]; simp; omega
      · rw [List.getElem?_append_right hi] at hu
        have hi' : i = s := by
          have := (List.getElem?_eq_some_iff.1 hu).1
          simp at this; omega
        subst hi'
        rw [show i - vals.length = 0 by omega] at hu
        simp at hu
        subst hu
        have h2 := ((Sl.of_own hin).mono (ok' := fun b => wo.heap.size ≤ b ∧ b < wr.heap.size) fun b hb' h => ⟨h.2, hb'⟩).alloc ob
        have hne : ∀ b, wo.heap.size ≤ b → some b ≠ u7.ownBlock := fun b hb' e => by have := own_lt ho b e.symm; omega
        refine h2.mono fun b _ ⟨h, hlt⟩ => ⟨hne b h, ?_⟩
        rcases hk1 with e | e
        · rw [e]; exact hne b h
        · rw [e]; simp; omega
    exact (key.grown hg1 fun b h => h.1).mono fun b _ h => h.2
set_option maxHeartbeats 1000000 in
theorem stack_any (c n : Nat) (w : World) (hc0 : 1 ≤ c) (hc : c ≤ 4096) (hn0 : 1 ≤ n) (hn : n ≤ 64) :
    Calls Try.prog 4 #[.int .i64 (c : Int), .int .i64 (n : Int)] w fun e w' => ∃ v vals, e = .returned (.tuple #[v, .int .i64 0]) ∧ vals.length = sheets c n ∧ Sl w' (fun _ => True) v vals ∧ IsStack w' (fun _ => True) c n vals ∧ Below w.heap.size w w' := by
  have hm : Hid (sheets c n = (c + n - 1) / n) := rfl
  have hs : ((c : Int) + (n : Int) - 1) / (n : Int) = ((sheets c n : Nat) : Int) := by
    unfold sheets; rw [Int.natCast_ediv]; congr 1; omega
  have hs1 : sheets c n ≤ 4160 := Nat.le_trans (Nat.div_le_self _ _) (by omega)
  go_enter Try.func4, Try.ntmps4
  go_wp2
  rw [hs]
  have HS := Lib.hid hs
  clear hs
  generalize hmm : sheets c n = m at *
  have HM := Lib.hid hmm
  clear hmm
  go_loopw [7, 8, 9, 10, 11, 33, 36, 37] (fun vo _ _ _ _ vs _ _ wr => ∃ (s : Nat) (vals : List Value), s ≤ m ∧ vs = .int .i64 s ∧ vals.length = s ∧ wr.ownsRow w.heap.size 27 1 vo s vals ∧ Below w.heap.size w wr ∧
    ∀ i u, vals[i]? = some u → Sl wr (fun b => some b ≠ vo.ownBlock) u (stRow c m n i)) (fun _ _ _ _ _ s _ _ _ => m - (intOf s).toNat)
  case atStart => exact ⟨0, [], by omega, rfl, rfl, ⟨rfl, .inl ⟨rfl, rfl⟩⟩, Below.refl _ _, fun i u h => by simp at h⟩
  case round =>
    obtain ⟨s, vals, hsm, rfl, hlen, hown, hb, hall⟩ := hrel
    by_cases hlt : s < m
    · have HO := Lib.hid hown
      have HB := Lib.hid hb
      have HA := Lib.hid hall
      have HL := Lib.hid hlen
      clear hown hb hall hlen
      go_wp2
      obtain ⟨wo, rfl⟩ : ∃ wo : World, wo = wr := ⟨_, rfl⟩
      go_loopw [9, 10, 11, 37] (fun vl _ _ vp wi => ∃ p : Nat, p ≤ n ∧ vp = .int .i64 p ∧ wi.ownsRow wo.heap.size 3 1 vl p (stRow c m p s) ∧ Below wo.heap.size wo wi) (fun _ _ _ p _ => n - (intOf p).toNat)
      case atStart => exact ⟨0, by omega, rfl, ⟨rfl, .inl ⟨rfl, rfl⟩⟩, Below.refl _ _⟩
      case round =>
        obtain ⟨p, hpn, rfl, hown, hb⟩ := hrel
        by_cases hp : p < n
        · have m0 : (0 : Int) ≤ (p : Int) * (m : Int) := Int.mul_nonneg (by omega) (by omega)
          have m1 : (p : Int) * (m : Int) ≤ 64 * 4160 := Int.mul_le_mul (by omega) (by omega) (by omega) (by omega)
          have HO2 := Lib.hid hown
          have HB2 := Lib.hid hb
          clear hown hb
          by_cases ht : (c : Int) < (p : Int) * (m : Int) + (s : Int) + 1
          · have HV : Hid (st c m p s = 0) := by unfold Hid st; rw [if_pos (by omega)]
            go_wp2_with (at_builtin; go_must (refine wpList_push eInt rfl (.tmp 49) (.tmp 51) rfl wo.heap.size u9 p _ rfl (HO2.out.alloc _) ⟨wr.heap.size, 0, none⟩ 1 (.int .i64 0) rfl (new_one _ _ _) rfl (by omega) (by omega) (le_alloc HB2.out.size _) ?_; intro v' w1 hown1 hg1 hk1))
            go_roundw
            case rel => exact stack_in HO2.out HB2.out hown1 hg1 hp HV.out
            case measure => simp [intOf]; omega
          · have HV : Hid (st c m p s = (p : Int) * (m : Int) + (s : Int) + 1) := by unfold Hid st; rw [if_neg (by omega)]; simp
            go_wp2_with (at_builtin; go_must (refine wpList_push eInt rfl (.tmp 49) (.tmp 51) rfl wo.heap.size u9 p _ rfl (HO2.out.alloc _) ⟨wr.heap.size, 0, none⟩ 1 (.int .i64 ((p : Int) * (m : Int) + (s : Int) + 1)) rfl (new_one _ _ _) rfl (by omega) (by omega) (le_alloc HB2.out.size _) ?_; intro v' w1 hown1 hg1 hk1))
            go_roundw
            case rel => exact stack_in HO2.out HB2.out hown1 hg1 hp HV.out
            case measure => simp [intOf]; omega
        · obtain rfl : p = n := by omega
          obtain ⟨g, cap, hv, hg, hgl⟩ := hown.form (by omega)
          rw [hv] at hown
          rw [hv]
          have HO2 := Lib.hid hown
          have HB2 := Lib.hid hb
          have hsz : w.heap.size ≤ wr.heap.size := Nat.le_trans HB.out.size HB2.out.size
          clear hown hb
          go_wp2_with (at_builtin; go_must (refine wpList_push eRow rfl (.tmp 54) (.tmp 56) rfl w.heap.size u7 s vals rfl ((own_below HO.out HB2.out).alloc _) ⟨wr.heap.size, 0, none⟩ 1 (.slice (some ⟨g, 0, none⟩) p cap) rfl (new_one _ _ _) (own_one HO2.out) (by omega) (by omega) (le_alloc hsz _) ?_; intro v' w1 hown1 hg1 hk1))
          go_roundw
          case rel => exact stack_out hlt HL.out HO.out HB.out HA.out HB2.out HO2.out hown1 hg1 hk1
          case measure => simp [intOf]; omega
    · obtain rfl : s = m := by omega
      go_wp2
      go_ret2
      refine ⟨_, vals, rfl, hlen.trans HM.out.symm, ?_, ?_, hb⟩
      · exact (Sl.of_own hown).mono fun _ _ _ => trivial
      · intro i u hu; rw [HM.out]; exact (hall i u hu).mono fun _ _ _ => trivial
end Go.Proofs.Ytcbnelklilamgaa
