/- The walks of binds and of the law on planned sections that are gathered in order. -/
import Derived.Test.YtcnoehaemankiaaGather
namespace Go.Proofs.Ytcnoehaemankiaa
open Go.RowKit
theorem many64 : many 6 4 = 2 := rfl
theorem plan_nest_any (pages per : Nat) (w : World) (h : 1 ≤ pages ∧ pages ≤ 512 ∧ 2 ≤ per ∧ per ≤ 64 ∧ per % 4 = 0 ∧ many pages per ≤ 64) :
    Calls Try.prog 10 #[.int .i64 (pages : Int), .int .i64 (per : Int), .int .i64 1] w fun e w' => ∃ ad cap, e = .returned (.tuple #[.slice (some ad) (many pages per) cap, .int .i64 0]) ∧ Secs w' ad (many pages per) (plans 1 pages per (many pages per)) ∧ Below w.heap.size w w' := by
  obtain ⟨h1, h2, h3, h4, h5, h6⟩ := h
  exact (plan_nest pages per w h1 h2 h3 h4 h5 h6).mono fun e w' hp => plan_secs hp (by unfold many; exact Nat.div_pos (by omega) (by omega)) (by omega) h3 h4
theorem plan_stack_any (pages per : Nat) (w : World) (h : 1 ≤ pages ∧ pages ≤ 512 ∧ 2 ≤ per ∧ per ≤ 64 ∧ per % 2 = 0 ∧ many pages per ≤ 64) :
    Calls Try.prog 10 #[.int .i64 (pages : Int), .int .i64 (per : Int), .int .i64 0] w fun e w' => ∃ ad cap, e = .returned (.tuple #[.slice (some ad) (many pages per) cap, .int .i64 0]) ∧ Secs w' ad (many pages per) (plans 0 pages per (many pages per)) ∧ Below w.heap.size w w' := by
  obtain ⟨h1, h2, h3, h4, h5, h6⟩ := h
  exact (plan_stack pages per w h1 h2 h3 h4 h5 h6).mono fun e w' hp => plan_secs hp (by unfold many; exact Nat.div_pos (by omega) (by omega)) (by omega) h3 h4
theorem two_lt : ∀ k, k < [0, 1].length → [0, 1].getD k 0 < 2 := by decide
set_option maxHeartbeats 1000000 in
theorem binds_any (w : World) : Calls Try.prog 9 #[] w fun e w' => e = .returned (.bool true) ∧ Below w.heap.size w w' := by
  go_enter Try.func9, Try.ntmps9
  go_wp2_with fail
  refine (plan_nest_any 6 4 _ (by decide)).mono ?_; rintro e w1 ⟨ad, cap, rfl, hsec, hb1⟩
  rw [many64] at hsec ⊢
  have HS := Lib.hid hsec
  have HB1 := Lib.hid hb1
  clear hsec hb1
  go_wp2_with fail
  have hb2 := (Below.refl w1.heap.size w1).alloc (Nat.le_refl _) (Obj.cells #[Value.int IntKind.i64 0, Value.int IntKind.i64 1] 3)
  refine (read_nest ad cap 2 _ _ [0, 1] _ (HS.out.later hb2) ((new_sl w1 3 (ints (nats [0, 1])) (by simp [maxLen, ints, nats])).mono fun _ _ _ => trivial) (by omega) (by simp) two_lt).mono ?_
  rintro e w2 ⟨v2, rfl, hown2, hb3⟩
  rw [show gather (front (plans 1 6 4 2)) [0, 1] ++ gather (back (plans 1 6 4 2)) [0, 1].reverse = [1, 2, 3, 4, 5, 6, 0, 0] by decide] at hown2
  have hsl2 := Sl.of_own hown2
  obtain ⟨A2, c2, rfl⟩ := hsl2.form
  have HB2 := Lib.hid (HB1.out.trans ((hb2.trans (hb3.mono (by simp))).mono HB1.out.size))
  have HSl := Lib.hid hsl2
  clear hown2 hsl2 hb3 hb2
  go_wp2_with fail
  refine (equal_ints _ _ [1, 2, 3, 4, 5, 6, 0, 0] [1, 2, 3, 4, 5, 6, 0, 0] _ _ _ (HSl.out.alloc _) (new_sl w2 3 (ints [1, 2, 3, 4, 5, 6, 0, 0]) (by simp [maxLen, ints]))).mono ?_
  rintro e w3 ⟨rfl, n, rfl⟩
  go_wp2_with fail
  go_ret
  exact ⟨rfl, below_drewN (HB2.out.alloc HB2.out.size _) n⟩
theorem nats_push (k : Nat) : ints (nats (List.range k)) ++ [Value.int .i64 (k : Int)] = ints (nats (List.range (k + 1))) := by
  simp [ints, nats, List.range_succ]
theorem many_bd (pages per : Nat) (h0 : 1 ≤ pages) (hp : 1 ≤ per) : pages ≤ many pages per * per ∧ many pages per * per < pages + per := by
  unfold many
  have := Nat.div_add_mod (pages + per - 1) per
  have := Nat.mod_lt (pages + per - 1) (show 0 < per by omega)
  rw [Nat.mul_comm]; omega
theorem plan_ok (pages per st : Nat) (w : World) (h : 1 ≤ pages ∧ pages ≤ 512 ∧ 2 ≤ per ∧ per ≤ 64 ∧ per % 4 = 0 ∧ many pages per ≤ 64) (hst : st ≤ 1) :
    Calls Try.prog 10 #[.int .i64 (pages : Int), .int .i64 (per : Int), .int .i64 (st : Int)] w fun e w' => ∃ ad cap, e = .returned (.tuple #[.slice (some ad) (many pages per) cap, .int .i64 0]) ∧ Secs w' ad (many pages per) (plans st pages per (many pages per)) ∧ Below w.heap.size w w' := by
  rcases (show st = 0 ∨ st = 1 by omega) with rfl | rfl
  · exact plan_stack_any pages per w (by omega)
  · exact plan_nest_any pages per w h
theorem read_ok (pages per st m : Nat) (ad : Addr) (cap : Nat) (vo : Value) (w : World) (hst : st ≤ 1) (h2 : per % 2 = 0) (hS : Secs w ad m (plans st pages per m)) (hO : Sl w (fun _ => True) vo (ints (nats (List.range m)))) (hm : m ≤ 64) :
    Calls Try.prog 11 #[.slice (some ad) m cap, vo, .int .i64 (st : Int)] w (ReadPost w (run pages 1 (m * per))) := by
  have hlt : ∀ k, k < (List.range m).length → (List.range m).getD k 0 < m := fun k hk => by
    rw [List.length_range] at hk; simp [List.getD_eq_getElem?_getD, hk]
  rcases (show st = 0 ∨ st = 1 by omega) with rfl | rfl
  · have := read_stack ad cap m _ vo (List.range m) w hS hO hm (by simpa using hm) hlt
    rw [gather_stack pages per m m (Nat.le_refl _)] at this
    exact this
  · have := read_nest ad cap m _ vo (List.range m) w hS hO hm (by simpa using hm) hlt
    rw [gather_nest pages per m h2] at this
    exact this
set_option maxHeartbeats 4000000 in
theorem law (a b c : Int) (w : World) :
    Calls Try.prog 4 #[.int .i64 a, .int .i64 b, .int .i64 c] w fun e w' => e = .returned (.bool true) ∧ Below w.heap.size w w' := by
  go_enter Try.func4, Try.ntmps4
  go_wp2_with fail
  refine (binds_any _).mono ?_; rintro e w1 ⟨rfl, hb1⟩
  have HB1 := Lib.hid hb1
  clear hb1
  go_wp2_with fail
  refine (within_range _ _ _ _ (by omega) (by omega) (by omega)).mono ?_; rintro e w' ⟨pages, hp0, hp1, rfl, rfl⟩
  go_wp2_with fail
  refine (within_range _ _ _ _ (by omega) (by omega) (by omega)).mono ?_; rintro e w' ⟨q, hq0, hq1, rfl, rfl⟩
  go_wp2_with fail
  refine (within_range _ _ _ _ (by omega) (by omega) (by omega)).mono ?_; rintro e w' ⟨st, hs0, hs1, rfl, rfl⟩
  obtain ⟨pages, rfl⟩ := Int.eq_ofNat_of_zero_le (show 0 ≤ pages by omega)
  obtain ⟨st, rfl⟩ := Int.eq_ofNat_of_zero_le (show 0 ≤ st by omega)
  obtain ⟨per, hper⟩ := Int.eq_ofNat_of_zero_le (show 0 ≤ 4 * q by omega)
  rw [hper]
  have hper4 : per % 4 = 0 := by omega
  have hper0 : 4 ≤ per := by omega
  have hper1 : per ≤ 64 := by omega
  have hbd := many_bd pages per (by omega) (by omega)
  clear hper
  by_cases hm : many pages per ≤ 64
  · go_wp2_with fail
    refine (plan_ok pages per st _ (by omega) (by omega)).mono ?_; rintro e w2 ⟨ad, cap, rfl, hsec, hb2⟩
    generalize many pages per = m at *
    have HS := Lib.hid hsec
    have HB2 := Lib.hid (HB1.out.trans (hb2.mono HB1.out.size))
    clear hsec hb2 HB1
    go_wp2_with fail
    go_loopw [9, 39] (fun vo vi wr => ∃ k : Nat, k ≤ m ∧ vi = .int .i64 k ∧ wr.ownsRow w2.heap.size 3 1 vo k (ints (nats (List.range k))) ∧ Below w2.heap.size w2 wr) (fun _ i _ => m - (intOf i).toNat)
    case atStart => exact ⟨0, by omega, rfl, ⟨rfl, .inl ⟨rfl, rfl⟩⟩, Below.refl _ _⟩
    case round =>
      obtain ⟨k, hk, rfl, hown, hb⟩ := hrel
      have HO := Lib.hid hown
      have HB := Lib.hid hb
      clear hown hb
      by_cases hlt : k < m
      · go_wp2_with (at_builtin; go_must (refine wpList_push eInt rfl (.tmp 42) (.tmp 44) rfl w2.heap.size u9 k _ rfl (HO.out.alloc _) ⟨wr.heap.size, 0, none⟩ 1 (.int .i64 (k : Int)) rfl (new_one _ _ _) rfl (by omega) (by omega) (le_alloc HB.out.size _) ?_; intro v1 w3 hown1 hg1 hk1))
        go_roundw
        case rel => exact ⟨k + 1, by omega, by go_num, by rw [← nats_push]; exact hown1, (HB.out.alloc HB.out.size _).grown hg1 (le_alloc HB.out.size _) fun g hg => (own_lt HO.out g hg).1⟩
        case measure => simp [intOf]; omega
      · obtain rfl : k = m := by omega
        have hbw : Below w.heap.size w wr := HB2.out.trans (HB.out.mono HB2.out.size)
        have HBW := Lib.hid hbw
        clear hbw
        go_wp2_with fail
        refine (read_ok pages per st k ad cap _ _ (by omega) (by omega) (HS.out.later HB.out) ((Sl.of_own HO.out).mono fun _ _ _ => trivial) (by omega)).mono ?_
        rintro e w4 ⟨v4, rfl, hown4, hb4⟩
        rw [run_length] at hown4
        generalize hT : k * per = T at *
        obtain ⟨g4, c4, rfl, _, hg4⟩ := hown4.form (by omega)
        have HO4 := Lib.hid hown4
        have HB4 := Lib.hid (HBW.out.trans (hb4.mono HBW.out.size))
        have hd1 : decide (T < pages) = false := by rw [decide_eq_false_iff_not]; omega
        have hd2 : decide ((per : Int) ≤ (T : Int) - (pages : Int)) = false := by rw [decide_eq_false_iff_not]; omega
        clear hown4 hb4 hT
        go_wp2_with fail
        go_loop [76] (fun vi => ∃ i : Nat, i ≤ T ∧ vi = .int .i64 i) (fun i => T - (intOf i).toNat)
        case atStart => exact ⟨0, by omega, rfl⟩
        case round =>
          obtain ⟨i, hi, rfl⟩ := hrel
          by_cases hlt2 : i < T
          · have hcell : w4.cell? ⟨g4, i, none⟩ = some (.int .i64 (clip pages (1 + (i : Int)))) := by
              have := HO4.out.cells (g := g4) rfl i (.int .i64 (clip pages (1 + (i : Int)))) (by simp [ints, run, hlt2])
              rw [add_plain, Nat.zero_add] at this; exact this
            by_cases hin : (i : Int) < (pages : Int)
            · have hc : clip pages (1 + (i : Int)) = (i : Int) + 1 := by unfold clip; rw [if_pos (by omega)]; omega
              rw [hc] at hcell
              clear hc
              go_wp2_with fail
              go_round
              case rel => exact ⟨i + 1, by omega, by go_num⟩
              case measure => simp [intOf]; omega
            · have hc : clip pages (1 + (i : Int)) = 0 := by unfold clip; rw [if_neg (by omega)]
              rw [hc] at hcell
              clear hc
              go_wp2_with fail
              go_round
              case rel => exact ⟨i + 1, by omega, by go_num⟩
              case measure => simp [intOf]; omega
          · obtain rfl : i = T := by omega
            go_wp2_with fail
            go_ret
            exact ⟨rfl, HB4.out⟩
  · have hlarge : per * 64 < pages := by
      have h65 : 65 ≤ many pages per := by omega
      have := Nat.mul_le_mul_right per h65
      omega
    go_wp2_with fail
    refine (plan_large pages per st _ (by omega) (by omega) (by omega) (by omega) (by omega) (by omega) (by omega)).mono ?_; rintro e w2 ⟨rfl, hb2⟩
    go_wp2_with fail
    go_ret
    exact ⟨by simp; omega, HB1.out.trans (hb2.mono HB1.out.size)⟩
end Go.Proofs.Ytcnoehaemankiaa
