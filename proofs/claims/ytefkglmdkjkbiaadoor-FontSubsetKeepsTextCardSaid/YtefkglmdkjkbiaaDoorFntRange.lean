/- Where a search ends, and the glyph of a code, in plain words. -/
import Derived.Test.YtefkglmdkjkbiaaDoorFntPlace
import Derived.Test.YtefkglmdkjkbiaaDoorFntNst
namespace Go.Proofs.YtefkglmdkjkbiaaDoor
open Fnt
namespace Fnt
theorem bs_left (less : Nat → Bool) : ∀ (f lo hi : Nat), Lib.bsGo less f lo hi = lo ∨ (0 < Lib.bsGo less f lo hi ∧ less (Lib.bsGo less f lo hi - 1) = true)
  | 0, _, _ => .inl rfl
  | f + 1, lo, hi => by
    unfold Lib.bsGo
    by_cases h : lo < hi
    · rw [if_pos h]
      by_cases hm : less ((lo + hi) / 2) = true
      · rw [if_pos hm]
        rcases bs_left less f ((lo + hi) / 2 + 1) hi with e | e
        · right; rw [e]; exact ⟨by omega, hm⟩
        · exact .inr e
      · rw [if_neg hm]; exact bs_left less f lo _
    · rw [if_neg h]; exact .inl rfl
theorem bs_le (less : Nat → Bool) : ∀ (f lo hi : Nat), lo ≤ hi → Lib.bsGo less f lo hi ≤ hi
  | 0, _, _, h => h
  | f + 1, lo, hi, h => by
    unfold Lib.bsGo
    by_cases h : lo < hi
    · rw [if_pos h]
      split
      · exact bs_le less f _ hi (by omega)
      · exact Nat.le_trans (bs_le less f lo _ (by omega)) (by omega)
    · rw [if_neg h]; omega
theorem bs_congr (p q : Nat → Bool) : ∀ (f lo hi : Nat), (∀ t, t < hi → p t = q t) → Lib.bsGo p f lo hi = Lib.bsGo q f lo hi
  | 0, _, _, _ => rfl
  | f + 1, lo, hi, h => by
    unfold Lib.bsGo
    by_cases hl : lo < hi
    · rw [if_pos hl, if_pos hl, h _ (by omega), bs_congr p q f _ hi h, bs_congr p q f lo _ fun t ht => h t (by omega)]
    · rw [if_neg hl, if_neg hl]
/-- What is known of a range without error. -/
structure RgOk (m : Rg) (many : Nat) : Prop where
  lo0 : 0 ≤ m.lo
  le : m.lo ≤ m.hi
  hi1 : m.hi ≤ 1114111
  g0 : 0 ≤ m.g
  g1 : m.g < many
  gh : m.g + m.hi - m.lo < many
theorem rg_ok {F : Font} {i : Nat} (h : mapE F i = 0) : RgOk (rg F i) F.gs.length := by
  unfold mapE at h
  split at h
  · omega
  rename_i h1
  split at h
  · omega
  rename_i h2
  simp at h1 h2
  exact ⟨h1.1, h1.2.1, h1.2.2, h2.1, h2.2.1, h2.2.2⟩
theorem fIdx_le (F : Font) (c : Int) : fIdx F c ≤ F.map.length := bs_le _ _ _ _ (Nat.zero_le _)
theorem fRange_le (F : Font) (c : Int) : fRange F c ≤ F.map.length := by
  unfold fRange
  split
  · rename_i h
    unfold fHit at h
    simp only [Bool.and_eq_true, decide_eq_true_eq] at h
    omega
  · exact fIdx_le F c
theorem fRange_lo (F : Font) (c : Int) (h : 0 < fRange F c) : (rg F (fRange F c - 1)).lo ≤ c := by
  unfold fRange at h ⊢
  split
  · rename_i h1
    unfold fHit at h1
    simp only [Bool.and_eq_true, decide_eq_true_eq] at h1
    rw [Nat.add_sub_cancel]; omega
  · rename_i h1
    rw [if_neg h1] at h
    rcases bs_left (fun t => decide ((rg F t).lo < c)) F.map.length 0 F.map.length with e | e
    · have : fIdx F c = 0 := e; omega
    · have h2 : decide ((rg F (fIdx F c - 1)).lo < c) = true := e.2
      have := of_decide_eq_true h2; omega
theorem find_bd {F : Font} (hM : ∀ i, i < F.map.length → RgOk (rg F i) F.gs.length) (hN : 0 < F.gs.length) (c : Int) : 0 ≤ find F c ∧ find F c < F.gs.length := by
  unfold find
  split
  · omega
  · rename_i h0
    split
    · omega
    · rename_i h1
      have h2 := fRange_lo F c (by omega)
      have h3 := fRange_le F c
      have h4 := hM (fRange F c - 1) (by omega)
      have := h4.g0; have := h4.gh; have := h4.g1
      omega
end Fnt
end Go.Proofs.YtefkglmdkjkbiaaDoor
