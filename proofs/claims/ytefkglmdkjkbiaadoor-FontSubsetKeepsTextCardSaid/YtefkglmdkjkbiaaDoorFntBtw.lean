/- The shift between two glyphs is that of the last pair that fits, in plain words. -/
import Derived.Test.YtefkglmdkjkbiaaDoorFntFok
namespace Go.Proofs.YtefkglmdkjkbiaaDoor
open Fnt
namespace Fnt
theorem pairC_lt {a b : Kp} : pairC a b < 0 ↔ a.l < b.l ∨ (a.l = b.l ∧ a.r < b.r) := by
  unfold pairC cmpI
  repeat' split
  all_goals omega
theorem pairC_eq {a b : Kp} : pairC a b = 0 ↔ a.l = b.l ∧ a.r = b.r := by
  unfold pairC cmpI
  repeat' split
  all_goals omega
theorem kern_mono {F : Font} (h : FOk F) : ∀ (d t : Nat), t + d + 1 < F.kern.length → pairC (kp F t) (kp F (t + d + 1)) < 0
  | 0, t, ht => by
    have := kp_order (h.kn (t + 0 + 1) ht) (by omega)
    rw [show t + 0 + 1 - 1 = t by omega] at this; exact this
  | d + 1, t, ht => by
    have h1 := kern_mono h d t (by omega)
    have h2 := kp_order (h.kn (t + (d + 1) + 1) ht) (by omega)
    rw [show t + (d + 1) + 1 - 1 = t + d + 1 by omega] at h2
    rw [pairC_lt] at *
    omega
theorem threshold (p : Nat → Bool) (hp : ∀ t s, t < s → p s = true → p t = true) : ∀ n, (∀ t, n ≤ t → p t = false) → ∃ k, k ≤ n ∧ (∀ t, t < k → p t = true) ∧ ∀ t, k ≤ t → p t = false
  | 0, h => ⟨0, Nat.le_refl _, fun t ht => absurd ht (by omega), h⟩
  | n + 1, h => by
    cases hn : p n with
    | true => exact ⟨n + 1, Nat.le_refl _, fun t ht => by
        rcases Nat.lt_or_ge t n with h1 | h1
        · exact hp t n h1 hn
        · obtain rfl : t = n := by omega
          exact hn, h⟩
    | false =>
      obtain ⟨k, h1, h2, h3⟩ := threshold p hp n fun t ht => by
        rcases Nat.lt_or_ge n t with h1 | h1
        · exact h t (by omega)
        · obtain rfl : t = n := by omega
          exact hn
      exact ⟨k, by omega, h2, h3⟩
/-- The shift of the last of the first i pairs that fits. -/
def lastBy (F : Font) (a b : Int) : Nat → Int
  | 0 => 0
  | i + 1 => if (kp F i).l = a ∧ (kp F i).r = b then (kp F i).by_ else lastBy F a b i
theorem lastBy_none {F : Font} {a b : Int} : ∀ n, (∀ t, t < n → ¬ ((kp F t).l = a ∧ (kp F t).r = b)) → lastBy F a b n = 0
  | 0, _ => rfl
  | n + 1, h => by simp only [lastBy]; rw [if_neg (h n (by omega))]; exact lastBy_none n fun t ht => h t (by omega)
theorem lastBy_one {F : Font} {a b : Int} {k : Nat} (hk : (kp F k).l = a ∧ (kp F k).r = b) : ∀ n, k < n → (∀ t, k < t → t < n → ¬ ((kp F t).l = a ∧ (kp F t).r = b)) → lastBy F a b n = (kp F k).by_
  | 0, h, _ => absurd h (by omega)
  | n + 1, h, hn => by
    simp only [lastBy]
    rcases Nat.lt_or_ge k n with h1 | h1
    · rw [if_neg (hn n h1 (by omega))]; exact lastBy_one hk n h1 fun t a b => hn t a (by omega)
    · obtain rfl : k = n := by omega
      rw [if_pos hk]
theorem btw_last {F : Font} (h : FOk F) (a b : Int) : lastBy F a b F.kern.length = btw F a b := by
  have mono : ∀ t s, t < s → s < F.kern.length → pairC (kp F t) (kp F s) < 0 := fun t s hts hs => by
    have := kern_mono h (s - t - 1) t (by omega)
    rwa [show t + (s - t - 1) + 1 = s by omega] at this
  obtain ⟨k, hk, h1, h2⟩ := threshold (fun t => decide (t < F.kern.length) && decide (pairC (kp F t) ⟨a, b, 0⟩ < 0)) (fun t s hts hs => by
    simp only [Bool.and_eq_true, decide_eq_true_eq] at hs ⊢
    have := mono t s hts hs.1
    refine ⟨by omega, ?_⟩
    have h3 := hs.2
    rw [pairC_lt] at *
    dsimp only at *
    omega) F.kern.length (fun t ht => by simp; omega)
  have hI : bIdx F a b = k := by
    unfold bIdx
    rw [bs_congr _ (fun t => decide (t < F.kern.length) && decide (pairC (kp F t) ⟨a, b, 0⟩ < 0)) _ _ _ fun t ht => by rw [decide_eq_true ht]; rfl]
    exact Lib.bsGo_spec _ k h1 h2 _ _ _ (by omega) (Nat.zero_le _) hk
  have hlo : ∀ t, t < k → ¬ ((kp F t).l = a ∧ (kp F t).r = b) := fun t ht e => by
    have := h1 t ht
    simp only [Bool.and_eq_true, decide_eq_true_eq] at this
    have h3 := this.2
    rw [pairC_lt] at h3
    dsimp only at h3
    omega
  have hhi : ∀ t, k < t → t < F.kern.length → ¬ ((kp F t).l = a ∧ (kp F t).r = b) := fun t ht hn e => by
    have h3 := h2 k (Nat.le_refl _)
    rw [decide_eq_true (show k < F.kern.length by omega)] at h3
    simp only [Bool.true_and, decide_eq_false_iff_not] at h3
    have h4 := mono k t ht hn
    rw [pairC_lt] at h3 h4
    dsimp only at h3
    omega
  unfold btw
  rw [hI]
  by_cases hkn : k < F.kern.length
  · by_cases hP : pairC (kp F k) ⟨a, b, 0⟩ = 0
    · rw [decide_eq_true hkn, decide_eq_true hP]
      rw [pairC_eq] at hP
      exact lastBy_one hP _ hkn hhi
    · rw [decide_eq_true hkn, decide_eq_false hP]
      refine lastBy_none _ fun t ht e => ?_
      rcases Nat.lt_trichotomy t k with h3 | h3 | h3
      · exact hlo t h3 e
      · subst h3; exact hP (pairC_eq.2 e)
      · exact hhi t h3 ht e
  · rw [decide_eq_false hkn]
    exact lastBy_none _ fun t ht => hlo t (by omega)
theorem gls_append (F : Font) (a b : List Int) : gls F (a ++ b) = gls F a ++ gls F b := by unfold gls; rw [List.map_append]
theorem gls_length (F : Font) (a : List Int) : (gls F a).length = a.length := by unfold gls; simp
end Fnt
end Go.Proofs.YtefkglmdkjkbiaaDoor
