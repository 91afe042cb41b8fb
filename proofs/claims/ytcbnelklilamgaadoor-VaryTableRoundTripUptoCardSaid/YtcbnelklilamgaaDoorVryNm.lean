/- The walks of plain and of quoted. -/
import Derived.Test.YtcbnelklilamgaaDoorVryIdx
import Derived.Lib.Replace
namespace Go.Proofs.YtcbnelklilamgaaDoor
open Go.RowKit Vr
def okc (i : Nat) (c : UInt8) : Bool := lower c || (decide (i ≠ 0) && (digit c || c == 45))
theorem all_ok : ∀ (r : Src) (k : Nat), 0 < k → (r.all (fun c => lower c || digit c || c == 45) = true ↔ ∀ i, i < r.length → okc (k + i) (r.getD i 0) = true)
  | [], _, _ => by simp
  | c :: r, k, hk => by
    have ih := all_ok r (k + 1) (by omega)
    rw [List.all_cons, Bool.and_eq_true, ih]
    have e0 : okc k c = (lower c || digit c || c == 45) := by
      unfold okc
      have : decide (k ≠ 0) = true := decide_eq_true (by omega)
      rw [this, Bool.true_and, Bool.or_assoc]
    constructor
    · rintro ⟨h1, h2⟩ i h
      cases i with
      | zero => show okc k c = true; rw [e0]; exact h1
      | succ i => have := h2 i (by simpa using h); rw [show k + (i + 1) = k + 1 + i by omega]; exact this
    · intro h
      refine ⟨by have := h 0 (by simp); rw [← e0]; exact this, fun i hi => ?_⟩
      have := h (i + 1) (by simpa using hi)
      rw [show k + (i + 1) = k + 1 + i by omega] at this
      exact this
theorem name_iff (s : Src) : nameB s = true ↔ (∀ i, i < s.length → okc i (s.getD i 0) = true) ∧ s ≠ [] ∧ s.length ≤ 16 := by
  cases s with
  | nil => simp [nameB]
  | cons c r =>
    have h1 := all_ok r 1 (by omega)
    have e0 : okc 0 c = lower c := by simp [okc]
    simp only [nameB, Bool.and_eq_true, decide_eq_true_eq, h1]
    constructor
    · rintro ⟨⟨a, b⟩, d⟩
      refine ⟨fun i h => ?_, by simp, by simp; omega⟩
      cases i with
      | zero => show okc 0 c = true; rw [e0]; exact a
      | succ i => have := b i (by simpa using h); rw [show 1 + i = i + 1 by omega] at this; exact this
    · rintro ⟨a, _, d⟩
      refine ⟨⟨by have := a 0 (by simp); rw [← e0]; exact this, fun i hi => ?_⟩, by simp at d; omega⟩
      have := a (i + 1) (by simpa using hi)
      rw [show 1 + i = i + 1 by omega]
      exact this
theorem bs_get (s : Src) (i : Nat) (h : i < (Bs s).size) : (Bs s)[i]'h = s.getD i 0 := by
  have e := Lib.data_getElem? (Bs s) i h
  rw [bs_list] at e
  rw [List.getD_eq_getElem?_getD, e]
  rfl
set_option maxRecDepth 100000 in
set_option maxHeartbeats 8000000 in
theorem plain_any (s : Src) (w : World) (hs : s.length ≤ maxLen) :
    Calls Tryd.prog 18 #[.string (Bs s)] w fun e w' => e = .returned (.bool (nameB s)) ∧ w' = w := by
  have HG := Lib.hid (bs_get s)
  have HN := Lib.hid (name_iff s)
  have hem : (Bs s).toList.isEmpty = s.isEmpty := by rw [Lib.toList_data, bs_list]
  have HE := Lib.hid hem
  have HZ := Lib.hid (bs_size s)
  have hmx : (Bs s).size ≤ 9223372036854775807 := by
    have h0 := bs_size s
    have h1 : maxLen ≤ 9223372036854775807 := by decide
    omega
  clear hem hs
  generalize Bs s = S at *
  go_enter Tryd.func18, Tryd.ntmps18
  go_wp2_with fail
  go_loopw [3, 4, 7] (fun _ _ v7 wr => True ∧ ∃ i : Nat, i ≤ S.size ∧ v7 = .int .i64 (i : Int) ∧ (∀ j, j < s.length → j < i → okc j (s.getD j 0) = true) ∧ wr = w) (fun _ _ v7 _ => S.size - (intOf v7).toNat)
  case atStart => exact ⟨trivial, 0, by omega, rfl, fun j _ h => by omega, rfl⟩
  case round =>
    obtain ⟨-, i, hi, rfl, hok, rfl⟩ := hrel
    have HO := Lib.hid hok
    clear hok
    by_cases hlt : i < S.size
    · have t0 : decide ((i : Int) < (S.size : Int)) = true := by simp; omega
      have hg := HG.out i hlt
      have HSl : Hid (i < s.length) := by rw [← HZ.out]; exact hlt
      have HOk : Hid (okc i (s.getD i 0) = true → ∀ j, j < s.length → j < i + 1 → okc j (s.getD j 0) = true) := fun h1 j h h2 => by
        rcases Nat.lt_or_ge j i with h3 | h3
        · exact HO.out j h h3
        · obtain rfl : j = i := by omega
          exact h1
      have HBad : Hid (okc i (s.getD i 0) = false → nameB s = false) := fun h1 => by
        rw [Bool.eq_false_iff]
        intro h2
        have := (HN.out.1 h2).1 i HSl.out
        rw [h1] at this
        cases this
      have hc : okc i (s.getD i 0) = (lower (s.getD i 0) || (decide (i ≠ 0) && (digit (s.getD i 0) || s.getD i 0 == 45))) := rfl
      have h45 : (s.getD i 0 == 45) = decide ((s.getD i 0).toNat = 45) := by
        rw [Bool.eq_iff_iff, beq_iff_eq, decide_eq_true_eq, ← UInt8.toNat_inj]; rfl
      unfold lower digit at hc
      rw [h45, ← hg] at hc
      rw [← hg] at HOk HBad
      have HC := Lib.hid hc
      clear hc h45 hg
      generalize okc i (S[i]'hlt) = ok at *
      have t1 : decide ((97 : Int) ≤ ((S[i]'hlt).toNat : Int)) = decide (97 ≤ (S[i]'hlt).toNat) := decide_eq_decide.2 (by omega)
      have t2 : decide (((S[i]'hlt).toNat : Int) ≤ 122) = decide ((S[i]'hlt).toNat ≤ 122) := decide_eq_decide.2 (by omega)
      have t3 : ((i : Int) == 0) = !decide (i ≠ 0) := by
        by_cases h : i = 0
        · subst h; rfl
        · have h1 : ((i : Int) == 0) = false := by rw [beq_eq_false_iff_ne]; omega
          rw [h1, decide_eq_true h]; rfl
      have t4 : decide ((48 : Int) ≤ ((S[i]'hlt).toNat : Int)) = decide (48 ≤ (S[i]'hlt).toNat) := decide_eq_decide.2 (by omega)
      have t5 : decide (((S[i]'hlt).toNat : Int) ≤ 57) = decide ((S[i]'hlt).toNat ≤ 57) := decide_eq_decide.2 (by omega)
      have t6 : (((S[i]'hlt).toNat : Int) != 45) = !decide ((S[i]'hlt).toNat = 45) := by
        by_cases h : (S[i]'hlt).toNat = 45
        · have h1 : (((S[i]'hlt).toNat : Int) != 45) = false := by rw [bne_eq_false_iff_eq]; omega
          rw [h1, decide_eq_true h]; rfl
        · have h1 : (((S[i]'hlt).toNat : Int) != 45) = true := by rw [bne_iff_ne]; omega
          rw [h1, decide_eq_false h]; rfl
      generalize decide (97 ≤ (S[i]'hlt).toNat) = p1 at *
      generalize decide ((S[i]'hlt).toNat ≤ 122) = p2 at *
      generalize decide (i ≠ 0) = p3 at *
      generalize decide (48 ≤ (S[i]'hlt).toNat) = q1 at *
      generalize decide ((S[i]'hlt).toNat ≤ 57) = q2 at *
      generalize decide ((S[i]'hlt).toNat = 45) = q3 at *
      cases p1 with
      | true =>
        cases p2 with
        | true =>
          have hk : ok = true := by rw [HC.out]; rfl
          go_wp2_with fail
          go_roundw
          case rel => exact ⟨trivial, i + 1, by omega, by go_num, HOk.out hk, by first | rfl | trivial⟩
          case measure => simp [intOf]; omega
        | false =>
          cases p3 with
          | false =>
            have hk : ok = false := by rw [HC.out]; rfl
            go_wp2_with fail
            go_ret
            exact ⟨by rw [HBad.out hk]; rfl, rfl⟩
          | true =>
            cases q1 with
            | false =>
              cases q3 with
              | true =>
                have hk : ok = true := by rw [HC.out]; rfl
                go_wp2_with fail
                go_roundw
                case rel => exact ⟨trivial, i + 1, by omega, by go_num, HOk.out hk, by first | rfl | trivial⟩
                case measure => simp [intOf]; omega
              | false =>
                have hk : ok = false := by rw [HC.out]; rfl
                go_wp2_with fail
                go_ret
                exact ⟨by rw [HBad.out hk]; rfl, rfl⟩
            | true =>
              cases q2 with
              | true =>
                have hk : ok = true := by rw [HC.out]; rfl
                go_wp2_with fail
                go_roundw
                case rel => exact ⟨trivial, i + 1, by omega, by go_num, HOk.out hk, by first | rfl | trivial⟩
                case measure => simp [intOf]; omega
              | false =>
                cases q3 with
                | true =>
                  have hk : ok = true := by rw [HC.out]; rfl
                  go_wp2_with fail
                  go_roundw
                  case rel => exact ⟨trivial, i + 1, by omega, by go_num, HOk.out hk, by first | rfl | trivial⟩
                  case measure => simp [intOf]; omega
                | false =>
                  have hk : ok = false := by rw [HC.out]; rfl
                  go_wp2_with fail
                  go_ret
                  exact ⟨by rw [HBad.out hk]; rfl, rfl⟩
      | false =>
        cases p3 with
        | false =>
          have hk : ok = false := by rw [HC.out]; rfl
          go_wp2_with fail
          go_ret
          exact ⟨by rw [HBad.out hk]; rfl, rfl⟩
        | true =>
          cases q1 with
          | false =>
            cases q3 with
            | true =>
              have hk : ok = true := by rw [HC.out]; rfl
              go_wp2_with fail
              go_roundw
              case rel => exact ⟨trivial, i + 1, by omega, by go_num, HOk.out hk, by first | rfl | trivial⟩
              case measure => simp [intOf]; omega
            | false =>
              have hk : ok = false := by rw [HC.out]; rfl
              go_wp2_with fail
              go_ret
              exact ⟨by rw [HBad.out hk]; rfl, rfl⟩
          | true =>
            cases q2 with
            | true =>
              have hk : ok = true := by rw [HC.out]; rfl
              go_wp2_with fail
              go_roundw
              case rel => exact ⟨trivial, i + 1, by omega, by go_num, HOk.out hk, by first | rfl | trivial⟩
              case measure => simp [intOf]; omega
            | false =>
              cases q3 with
              | true =>
                have hk : ok = true := by rw [HC.out]; rfl
                go_wp2_with fail
                go_roundw
                case rel => exact ⟨trivial, i + 1, by omega, by go_num, HOk.out hk, by first | rfl | trivial⟩
                case measure => simp [intOf]; omega
              | false =>
                have hk : ok = false := by rw [HC.out]; rfl
                go_wp2_with fail
                go_ret
                exact ⟨by rw [HBad.out hk]; rfl, rfl⟩
    · have t0 : decide ((i : Int) < (S.size : Int)) = false := by simp; omega
      obtain rfl : i = S.size := by omega
      have hf : nameB s = (s != [] && decide (s.length ≤ 16)) := by
        rw [Bool.eq_iff_iff, HN.out, Bool.and_eq_true, bne_iff_ne, decide_eq_true_eq]
        exact ⟨fun h => h.2, fun h => ⟨fun j hj => HO.out j hj (by rw [HZ.out]; exact hj), h⟩⟩
      have hs0 : (s != []) = !s.isEmpty := by cases s <;> rfl
      rw [hs0, ← HE.out, ← HZ.out] at hf
      have HF := Lib.hid hf
      clear hf hs0
      by_cases h16 : S.size ≤ 16
      · have t1 : decide ((S.size : Int) ≤ 16) = true := decide_eq_true (by omega)
        rw [decide_eq_true h16] at HF
        cases hem : S.toList.isEmpty with
        | true =>
          rw [hem] at HF
          go_wp2_with fail
          go_ret
          exact ⟨by rw [HF.out]; rfl, rfl⟩
        | false =>
          rw [hem] at HF
          go_wp2_with fail
          go_ret
          exact ⟨by rw [HF.out]; rfl, rfl⟩
      · have t1 : decide ((S.size : Int) ≤ 16) = false := decide_eq_false (by omega)
        rw [decide_eq_false h16] at HF
        cases hem : S.toList.isEmpty with
        | true =>
          rw [hem] at HF
          go_wp2_with fail
          go_ret
          exact ⟨by rw [HF.out]; rfl, rfl⟩
        | false =>
          rw [hem] at HF
          go_wp2_with fail
          go_ret
          exact ⟨by rw [HF.out]; rfl, rfl⟩
end Go.Proofs.YtcbnelklilamgaaDoor
