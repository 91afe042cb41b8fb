/- The walk of repeated. -/
import Derived.Test.YtdibgloaknnfgaaFltCopP
import Derived.Test.YtdibgloaknnfgaaDecText
import Derived.Test.YtdibgloaknnfgaaLitsX
import Derived.BigQuiet
import Derived.BigRegion
import Derived.RegionTactic
import Derived.Deep.QuietTactic
import Derived.Deep.DeepMust
import Derived.Deep.DeepCutAuto
import Derived.Deep.CutBlock
namespace Go.Proofs.Ytdibgloaknnfgaa
open Go.RowKit
theorem repTo_eq (x : UInt8) : ∀ (l : List UInt8) (m n : Nat), n ≤ m → n ≤ l.length → (∀ j, j < n → l.getD j 0 = x) → (n = m ∨ n = l.length ∨ l.getD n 0 ≠ x) → repTo x l m = n
  | l, 0, n, h, _, _, _ => by simp [repTo]; omega
  | [], m + 1, n, _, h, _, _ => by simp only [repTo]; simp at h; omega
  | y :: r, m + 1, 0, _, _, _, h => by
    simp only [repTo]
    rw [if_neg]
    rintro rfl
    rcases h with h | h | h
    · omega
    · simp at h
    · exact h rfl
  | y :: r, m + 1, n + 1, h1, h2, h3, h4 => by
    simp only [repTo]
    have e : y = x := h3 0 (by omega)
    rw [if_pos e, repTo_eq x r m n (by omega) (by simpa using h2) (fun j hj => by simpa using h3 (j + 1) (by omega)) (by simpa using h4)]
theorem repN_eq {l : List UInt8} {n : Nat} (h0 : l ≠ []) (h1 : 1 ≤ n) (h2 : n ≤ 128) (h3 : n ≤ l.length) (h4 : ∀ j, j < n → l.getD j 0 = l.getD 0 0) (h5 : n = 128 ∨ n = l.length ∨ l.getD n 0 ≠ l.getD 0 0) : repN l = n := by
  cases l with
  | nil => exact absurd rfl h0
  | cons x r =>
    obtain ⟨k, rfl⟩ : ∃ k, n = k + 1 := ⟨n - 1, by omega⟩
    simp only [repN]
    rw [repTo_eq x r 127 k (by omega) (by simpa using h3) (fun j hj => by simpa using h4 (j + 1) (by omega)) (by simpa using h5)]
theorem repeated_any (s : ByteArray) (w : World) (h1 : 1 ≤ s.size) (h2 : s.size ≤ 1000000) :
    Calls Try.prog 37 #[.string s] w fun e w' => e = .returned (.int .i64 (repN s.data.toList : Nat)) ∧ Below w.heap.size w w' := by
  have HBy : Hid (∀ j (h : j < s.size), s[j]'h = s.data.toList.getD j 0) := fun j h => sbyte s j h
  have hlen : s.data.toList.length = s.size := by simp
  have HL := Lib.hid hlen
  have hne : s.data.toList ≠ [] := fun e => by rw [e] at hlen; simp at hlen; omega
  have HNe := Lib.hid hne
  have HRep : Hid (∀ n, 1 ≤ n → n ≤ 128 → n ≤ s.data.toList.length → (∀ j, j < n → s.data.toList.getD j 0 = s.data.toList.getD 0 0) → (n = 128 ∨ n = s.data.toList.length ∨ s.data.toList.getD n 0 ≠ s.data.toList.getD 0 0) → repN s.data.toList = n) := fun n a b c d e => repN_eq hne a b c d e
  clear hne hlen
  generalize repN s.data.toList = R at *
  generalize s.data.toList = L at *
  go_enter Try.func37, Try.ntmps37
  go_wp2
  go_loopw [3] (fun v wr => ∃ n : Nat, v = .int .i64 n ∧ 1 ≤ n ∧ n ≤ 128 ∧ n ≤ s.size ∧ (∀ j, j < n → L.getD j 0 = L.getD 0 0) ∧ Below w.heap.size w wr) (fun v _ => 128 - (intOf v).toNat)
  case atStart => exact ⟨1, rfl, by omega, by omega, h1, fun j hj => by rw [show j = 0 by omega], Below.refl _ _⟩
  case round =>
    obtain ⟨n, rfl, a1, a2, a3, a4, hb⟩ := hrel
    have HB := Lib.hid hb
    clear hb
    have HA := Lib.hid a4
    clear a4
    have h0 : 0 < s.size := by omega
    by_cases c1 : n < s.size
    · have g1 : decide ((n : Int) < (s.size : Int)) = true := by simp; omega
      by_cases c2 : n < 128
      · have g2 : decide ((n : Int) < 128) = true := by simp; omega
        have hb0 := HBy.out 0 (by omega)
        have hbn := HBy.out n c1
        by_cases c3 : s[n]'c1 = s[0]'(by omega)
        · have g3 : (((s[n]'c1).toNat : Int) == ((s[0]'(by omega)).toNat : Int)) = true := by rw [c3]; simp
          have HE : Hid (L.getD n 0 = L.getD 0 0) := by rw [hb0, hbn] at c3; exact c3
          clear c3 hb0 hbn
          go_wp2
          go_quiet (fail)
          go_wp2
          go_roundw
          case rel => exact ⟨n + 1, by go_num, by omega, by omega, by omega, fun j hj => by rcases Nat.lt_or_ge j n with h | h; exact HA.out j h; rw [show j = n by omega]; exact HE.out, below_drewN HB.out _⟩
          case measure => simp [intOf]; omega
        · have g3 : (((s[n]'c1).toNat : Int) == ((s[0]'(by omega)).toNat : Int)) = false := by
            refine beq_eq_false_iff_ne.2 fun e => c3 (UInt8.toNat_inj.1 (by omega))
          have hR : R = n := HRep.out n a1 (by omega) (by rw [HL.out]; omega) HA.out (.inr (.inr (by rw [← hb0, ← hbn]; exact c3)))
          clear c3 hb0 hbn
          go_wp2
          go_quiet (fail)
          go_wp2
          go_ret
          exact ⟨by rw [hR]; rfl, below_drewN HB.out _⟩
      · have g2 : decide ((n : Int) < 128) = false := by simp; omega
        have hR : R = n := HRep.out n a1 (by omega) (by rw [HL.out]; omega) HA.out (.inl (by omega))
        go_wp2
        go_quiet (fail)
        go_wp2
        go_ret
        exact ⟨by rw [hR]; rfl, below_drewN HB.out _⟩
    · have g1 : decide ((n : Int) < (s.size : Int)) = false := by simp; omega
      have hR : R = n := HRep.out n a1 (by omega) (by rw [HL.out]; omega) HA.out (.inr (.inl (by rw [HL.out]; omega)))
      go_wp2
      go_quiet (fail)
      go_wp2
      go_ret
      exact ⟨by rw [hR]; rfl, below_drewN HB.out _⟩
end Go.Proofs.Ytdibgloaknnfgaa
