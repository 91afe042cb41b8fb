/- The walk of ArchiveCutsLocal. -/
import Derived.Test.YtpfkmjckjomeeaaDoorArcStores
import Derived.Test.YtpfkmjckjomeeaaDoorEqualInts
import Derived.Test.YtpfkmjckjomeeaaDoorWithin
namespace Go.Proofs.YtpfkmjckjomeeaaDoor
open Go.RowKit Arc
namespace Arc
def sumTo (l : List Nat) (k : Nat) : Nat := (l.take k).sum
theorem sumTo_succ (l : List Nat) (k : Nat) (h : k < l.length) : sumTo l (k + 1) = sumTo l k + l.getD k 0 := by
  unfold sumTo; rw [take_succ_getD l h, List.sum_append]; simp
theorem rest_at (s : ByteArray) (k : Nat) (h : k ≤ (cuts s).length) : sumTo (cuts s) k ≤ s.size ∧ rest (cuts s) s k = s.extract (sumTo (cuts s) k) s.size := by
  induction k with
  | zero =>
    refine ⟨Nat.zero_le _, ?_⟩
    have : rest (cuts s) s 0 = s := by cases cuts s <;> rfl
    rw [this]; show s = s.extract 0 s.size
    rw [ByteArray.extract_zero_size]
  | succ k ih =>
    obtain ⟨h1, h2⟩ := ih (by omega)
    obtain ⟨_, g2, _, _⟩ := cuts_get (s := s) (j := k) (by omega)
    rw [h2, size_rest] at g2
    rw [sumTo_succ _ _ (by omega)]
    refine ⟨by omega, ?_⟩
    rw [rest_succ _ _ _ (by omega), h2, size_rest, ByteArray.extract_extract]
    congr 1; omega
theorem sumTo_le (s : ByteArray) (k : Nat) (h : k ≤ (cuts s).length) : sumTo (cuts s) k ≤ s.size := (rest_at s k h).1
end Arc
theorem nats_ints (l : List Nat) : nats l = ints (l.map fun (n : Nat) => (n : Int)) := by simp [nats, ints]
theorem equal_self {v1 v2 : Value} {xs : List Int} {w : World} {ok1 ok2 : Nat → Prop} (h1 : Sl w ok1 v1 (ints xs)) (h2 : Sl w ok2 v2 (ints xs)) :
    Calls Tryd.prog 10 #[v1, v2] w fun e w' => e = .returned (.bool true) ∧ Same w w' :=
  (equal_ints v1 v2 xs xs w ok1 ok2 h1 h2).mono fun e w' ⟨a, b⟩ => ⟨by rw [a, decide_eq_true (rfl : xs = xs)], b⟩
set_option maxRecDepth 100000 in
set_option maxHeartbeats 8000000 in
theorem local_any (s : ByteArray) (which : Int) (w : World) (hT : Tab w) (h1 : 1 ≤ w.heap.size) (hm : s.size ≤ maxLen) :
    Calls Tryd.prog 3 #[.string s, .int .i64 which] w fun e w' => e = .returned (.bool true) ∧ Below w.heap.size w w' := by
  have HSt := Lib.hid (stores_any w hT h1)
  by_cases hs : 16384 < s.size
  · have HCl : Hid (∀ w', Calls Tryd.prog 8 #[.string s] w' fun e w'' => e = .returned (.tuple #[.slice none 0 0, .int .i64 2]) ∧ w' = w'') := fun w' => cuts_large s w' hm hs
    clear hT hm hs
    go_enter Tryd.func3, Tryd.ntmps3
    go_wp2_with fail
    refine HSt.out.mono ?_; rintro e w1 ⟨rfl, hb1⟩
    have HB1 := Lib.hid hb1
    clear hb1
    go_wp2_with fail
    refine (HCl.out w1).mono ?_; rintro e w2 ⟨rfl, rfl⟩
    go_wp2
    go_ret
    exact ⟨rfl, HB1.out⟩
  · have hs2 : s.size ≤ 16384 := by omega
    have HCu : Hid (∀ w', Calls Tryd.prog 8 #[.string s] w' (CutsOk s w')) := fun w' => cuts_any s w' hs2
    clear hT hm hs
    by_cases hn0 : (cuts s).length = 0
    · have hse : s.size = 0 := by
        by_cases h : s.size = 0
        · exact h
        · rw [cuts_cons (by omega)] at hn0; simp at hn0
      have hq := is_empty hse
      have HN0 := Lib.hid hn0
      clear hn0 hse hs2
      go_enter Tryd.func3, Tryd.ntmps3
      go_wp2_with fail
      refine HSt.out.mono ?_; rintro e w1 ⟨rfl, hb1⟩
      have HB1 := Lib.hid hb1
      clear hb1
      go_wp2_with fail
      refine (HCu.out w1).mono ?_; rintro e w2 ⟨v, rfl, ho, hb2⟩
      obtain ⟨Av, cv, rfl⟩ := own_form ho
      have HB2 := Lib.hid (HB1.out.trans (hb2.mono HB1.out.size))
      rw [HN0.out]
      clear ho hb2
      go_wp2
      go_ret
      exact ⟨rfl, HB2.out⟩
    · obtain ⟨n, hn⟩ : ∃ n, (cuts s).length = n := ⟨_, rfl⟩
      have hnp : 0 < n := by omega
      have hn9 : n ≤ 16384 := by have := cuts_length_le s; omega
      have HN := Lib.hid hn
      have HG : Hid (∀ j, j < n → 1 ≤ (cuts s).getD j 0 ∧ (cuts s).getD j 0 ≤ 256 ∧ (32 ≤ (cuts s).getD j 0 ∨ j + 1 = n)) := fun j hj => by
        obtain ⟨a, _, c, d⟩ := cuts_get (s := s) (j := j) (by omega)
        exact ⟨a, c, by rw [← hn]; exact d⟩
      have HW := Lib.hid (within_range which 0 ((n : Int) - 1) w (by omega) (by omega) (by omega))
      clear hn hn0
      go_enter Tryd.func3, Tryd.ntmps3
      go_wp2_with fail
      refine HSt.out.mono ?_; rintro e w1 ⟨rfl, hb1⟩
      have HB1 := Lib.hid hb1
      clear hb1
      go_wp2_with fail
      refine (HCu.out w1).mono ?_; rintro e w2 ⟨v, rfl, ho, hb2⟩
      obtain ⟨Av, cv, rfl⟩ := own_form ho
      have HB2 := Lib.hid (HB1.out.trans (hb2.mono HB1.out.size))
      rw [HN.out] at ho ⊢
      have HO := Lib.hid ho
      obtain ⟨g, cap, eg, _, hg, _, _, hcell⟩ := own_cells ho hnp
      injection eg with eg1 _ eg3
      have HCe := Lib.hid hcell
      subst eg1
      subst eg3
      clear ho hb2 hcell
      have hnz : ((n : Int) == 0) = false := by simp; omega
      go_wp2_with fail
      refine (within_range which 0 ((n : Int) - 1) _ (by omega) (by omega) (by omega)).mono ?_; rintro e w' ⟨r, hr0, hr1, rfl, rfl⟩
      obtain ⟨k, rfl⟩ := Int.eq_ofNat_of_zero_le hr0
      have hkn : k < n := by omega
      go_wp2
      go_loop [40, 8] (fun v40 v8 => ∃ i : Nat, i ≤ n ∧ v40 = .int .i64 (i : Int) ∧ v8 = .int .i64 (sumTo (cuts s) (min i k) : Int)) (fun v40 _ => n - (intOf v40).toNat)
      case atStart => exact ⟨0, by omega, rfl, by rw [Nat.zero_min]; rfl⟩
      case round =>
        obtain ⟨i, hi, rfl, rfl⟩ := hrel
        have hsl : Hid (sumTo (cuts s) (min i k) ≤ s.size) := sumTo_le s _ (by have := HN.out; omega)
        by_cases hlt : i < n
        · obtain ⟨b1, b2, b3⟩ := HG.out i hlt
          have hc := HCe.out i (.int .i64 ((cuts s).getD i 0 : Nat)) (by
            unfold nats; rw [List.getElem?_map, List.getElem?_eq_getElem (by have := HN.out; omega), List.getD_eq_getElem?_getD, List.getElem?_eq_getElem (by have := HN.out; omega)]; rfl)
          have HSc : Hid (i < k → sumTo (cuts s) (min (i + 1) k) = sumTo (cuts s) (min i k) + (cuts s).getD i 0) := fun h => by
            rw [Nat.min_eq_left (by omega), Nat.min_eq_left (by omega)]; exact sumTo_succ _ _ (by have := HN.out; omega)
          have HSk : Hid (¬ i < k → sumTo (cuts s) (min (i + 1) k) = sumTo (cuts s) (min i k)) := fun h => by
            rw [Nat.min_eq_right (by omega), Nat.min_eq_right (by omega)]
          have HSl := hsl.out
          generalize sumTo (cuts s) (min i k) = at_ at *
          generalize (cuts s).getD i 0 = c at *
          have q1 : decide ((256 : Int) < (c : Int)) = false := decide_eq_false (by omega)
          have q2 : decide ((c : Int) < 1) = false := decide_eq_false (by omega)
          by_cases hik : i < k
          · have hc32 : ¬ c < 32 := by omega
            have q3 : decide ((c : Int) < 32) = false := decide_eq_false (by omega)
            go_wp2
            refine ⟨⟨i + 1, by omega, by go_num, by rw [HSc.out hik]; go_num⟩, by simp [intOf]; omega⟩
          · by_cases hc32 : c < 32
            all_goals
              go_wp2
              refine ⟨⟨i + 1, by omega, by go_num, by rw [HSk.out hik]⟩, by simp [intOf]; omega⟩
        · obtain rfl : i = n := by omega
          rw [Nat.min_eq_right (by omega)]
          have hat : Hid (sumTo (cuts s) k ≤ s.size ∧ rest (cuts s) s k = s.extract (sumTo (cuts s) k) s.size) := rest_at s k (by have := HN.out; omega)
          have hrc : Hid (cuts (rest (cuts s) s k) = (cuts s).drop k) := rest_cuts s k (by have := HN.out; omega)
          rw [hat.out.2] at hrc
          have hal := hat.out.1
          have HC2 : Hid (∀ w', Calls Tryd.prog 8 #[.string (s.extract (sumTo (cuts s) k) s.size)] w' (CutsOk (s.extract (sumTo (cuts s) k) s.size) w')) := fun w' => cuts_any _ w' (by rw [size_rest]; omega)
          clear hat hsl
          generalize sumTo (cuts s) k = at_ at *
          have emin : min (at_ : Int) (s.size : Int) = (at_ : Int) := by omega
          go_wp2_with fail
          refine (HC2.out _).mono ?_; rintro e w3 ⟨v3, rfl, ho3, hb3⟩
          have HB3 := Lib.hid (HB2.out.trans (hb3.mono HB2.out.size))
          have S1 := Lib.hid (Sl.of_own ho3)
          have S2 := Lib.hid (((Sl.of_own HO.out).later hb3).drop_ (Nat.le_of_lt hkn))
          rw [hrc.out, nats_ints] at S1
          obtain ⟨A3, c3, rfl⟩ := own_form ho3
          have hcap := (Sl.of_own HO.out).cap_le.2.1
          have hdrop : (nats (cuts s)).drop k = ints (((cuts s).drop k).map fun (n : Nat) => (n : Int)) := by rw [nats_ints]; simp [ints]
          rw [hdrop] at S2
          rw [show (⟨g, 0, none⟩ : Addr).add k = ⟨g, k, none⟩ by simp [Addr.add]; omega] at S2
          have HEq := Lib.hid (equal_self S1.out S2.out)
          clear ho3 hb3 hdrop
          go_wp2_with fail
          refine HEq.out.mono ?_; rintro e w4 ⟨rfl, hsm⟩
          have HF : Hid (Below w.heap.size w w4) := HB3.out.trans (hsm.below _)
          clear hsm
          go_wp2
          go_ret
          exact ⟨rfl, HF.out⟩
end Go.Proofs.YtpfkmjckjomeeaaDoor
