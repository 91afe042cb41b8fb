/- What the readers leave is not longer than what they get; what they read is in bounds. No program is in sight here. -/
import Derived.Test.YtonmpealebggoaaDoorPrpLex
namespace Go.Proofs.YtonmpealebggoaaDoor
namespace Pr
theorem step_len {s : St} (h : s.1 ≠ []) : stLen (lexW s.2) < stLen s := by
  have h1 := lexW_len s.2
  have h2 : 0 < s.1.length := List.length_pos_iff.2 h
  unfold stLen at *
  omega
theorem pSign_len (s : St) : stLen (pSign s).2 ≤ stLen s := by
  unfold pSign
  split
  · rename_i h
    exact Nat.le_of_lt (step_len (by rw [h]; simp))
  · exact Nat.le_refl _
theorem pSign_val (s : St) : (pSign s).1 = 1 ∨ (pSign s).1 = -1 := by
  unfold pSign
  split
  · exact .inr rfl
  · exact .inl rfl
theorem numV_val {m : Int} {w : Src} {n : Int} (h : numV m w = some n) : 0 ≤ n ∧ n ≤ m ∧ w ≠ [] := by
  unfold numV at h
  split at h
  · rename_i n' hn
    split at h
    · rename_i h1
      injection h with h
      subst h
      refine ⟨h1.1, h1.2.1, ?_⟩
      rintro rfl
      cases hn
    · cases h
  · cases h
theorem pNum_len {m : Int} {s : St} {r : Int × St} (h : pNum m s = some r) : stLen r.2 < stLen s ∧ 0 ≤ r.1 ∧ r.1 ≤ m := by
  unfold pNum at h
  split at h
  · rename_i n hn
    injection h with h
    subst h
    obtain ⟨h1, h2, h3⟩ := numV_val hn
    exact ⟨step_len h3, h1, h2⟩
  · cases h
theorem plain_len {s : Src} (h : plainB s = true) : s ≠ [] ∧ s.length ≤ 16 := by
  obtain ⟨c, r, h1, _, _, h2, _⟩ := plain_parts h
  exact ⟨by rw [h1]; simp, h2⟩
theorem pName_len {s : St} {r : Src × St} (h : pName s = some r) : stLen r.2 < stLen s ∧ r.1.length ≤ 16 := by
  unfold pName at h
  split at h
  · rename_i hp
    injection h with h
    subst h
    exact ⟨step_len (plain_len hp).1, (plain_len hp).2⟩
  · cases h
theorem pWant_len {w : Src} {s s2 : St} (hw : w ≠ []) (h : pWant w s = some s2) : stLen s2 < stLen s := by
  unfold pWant at h
  split at h
  · rename_i h1
    injection h with h
    subst h
    exact step_len (by rw [h1]; exact hw)
  · cases h
theorem pTerm_len {sg : Int} {s : St} {r : Tm × St} (h : pTerm sg s = some r) : stLen r.2 < stLen s ∧ r.1.2.length ≤ 16 := by
  unfold pTerm at h
  split at h
  · split at h
    · cases h
    · rename_i n s2 hn
      split at h
      · cases h
      · rename_i nm s3 hm
        injection h with h
        subst h
        have h1 := pNum_len hn
        have h2 := pName_len hm
        exact ⟨Nat.lt_trans h2.1 h1.1, h2.2⟩
  · split at h
    · cases h
    · rename_i nm s3 hm
      injection h with h
      subst h
      have h2 := pName_len hm
      exact ⟨h2.1, h2.2⟩
theorem pTerms_len : ∀ (k : Nat) {l : List Tm} {s : St} {r : List Tm × St}, pTerms k l s = some r → stLen r.2 ≤ stLen s
  | 0, _, _, _, h => by cases h
  | k + 1, l, s, r, h => by
    unfold pTerms at h
    split at h
    · rename_i h1
      have hs : stLen (lexW s.2) < stLen s := step_len (by rcases h1 with h1 | h1 <;> rw [h1] <;> simp)
      split at h
      · cases h
      · rename_i t s2 ht
        have h2 := pTerm_len ht
        have h3 := pTerms_len k h
        dsimp only at h2
        omega
    · injection h with h
      subst h
      exact Nat.le_refl _
theorem opV_nil {w : Src} (h : ¬ opV w < 0) : w ≠ [] := by rintro rfl; exact h (by decide)
theorem pCompare_len {s : St} {r : Cd × St} (h : pCompare s = some r) : stLen r.2 < stLen s := by
  unfold pCompare at h
  have h0 := pSign_len s
  split at h
  · cases h
  · rename_i t s2 ht
    have h1 := (pTerm_len ht).1
    split at h
    · cases h
    · rename_i l s3 hl
      have h2 := pTerms_len _ hl
      split at h
      · cases h
      · rename_i ho
        have h3 := step_len (opV_nil ho)
        split at h
        · cases h
        · rename_i n s5 hn
          injection h with h
          subst h
          have h4 := (pNum_len hn).1
          have h5 := pSign_len (lexW s3.2)
          dsimp only at *
          omega
theorem pMore_len {g : St → Option (Cd × St)} (hg : ∀ {s r}, g s = some r → stLen r.2 ≤ stLen s) {kd : Int} {kw : Src} : ∀ (k : Nat) {c : Cd} {s : St} {r : Cd × St}, kw ≠ [] → pMore g kd kw k c s = some r → stLen r.2 ≤ stLen s
  | 0, _, _, _, _, h => by cases h
  | k + 1, c, s, r, hw, h => by
    unfold pMore at h
    split at h
    · rename_i h1
      have hs : stLen (lexW s.2) < stLen s := step_len (by rw [h1]; exact hw)
      split at h
      · cases h
      · rename_i d s2 hd
        have h2 := hg hd
        have h3 := pMore_len hg k hw h
        dsimp only at h2
        omega
    · injection h with h
      subst h
      exact Nat.le_refl _
theorem pCond_len : ∀ (f least : Nat) {s : St} {r : Cd × St}, pCond f least s = some r → stLen r.2 ≤ stLen s
  | 0, _, _, _, h => by cases h
  | f + 1, least, s, r, h => by
    unfold pCond at h
    split at h
    · split at h
      · rename_i h1
        have hs : stLen (lexW s.2) < stLen s := step_len (by rw [h1]; simp [wNot])
        split at h
        · cases h
        · rename_i c s2 hc
          injection h with h
          subst h
          have := pCond_len f 3 hc
          dsimp only at *
          omega
      · split at h
        · rename_i h1
          have hs : stLen (lexW s.2) < stLen s := step_len (by rw [h1]; simp)
          split at h
          · cases h
          · rename_i c s2 hc
            split at h
            · cases h
            · rename_i s3 h3
              injection h with h
              subst h
              have := pCond_len f 1 hc
              have := pWant_len (by simp) h3
              dsimp only at *
              omega
        · exact Nat.le_of_lt (pCompare_len h)
    · split at h
      · cases h
      · rename_i c s2 hc
        have h1 := pCond_len f (least + 1) hc
        have h2 := pMore_len (g := pCond f (least + 1)) (fun {s r} => pCond_len f (least + 1)) _ (by split <;> simp [wAnd, wOr]) h
        dsimp only at *
        omega
theorem pRule_len {s : St} {r : Rl × St} (h : pRule s = some r) : stLen r.2 < stLen s ∧ r.1.1.length ≤ 16 := by
  unfold pRule at h
  split at h
  · cases h
  · rename_i s1 h1
    have g1 := pWant_len (by simp [wRule]) h1
    split at h
    · cases h
    · rename_i nm s2 h2
      have g2 := pName_len h2
      split at h
      · cases h
      · rename_i s3 h3
        have g3 := pWant_len (by simp) h3
        split at h
        · cases h
        · rename_i c s4 h4
          have g4 := pCond_len _ _ h4
          split at h
          · rename_i h5
            injection h with h
            subst h
            have g5 : stLen (lexW s4.2) < stLen s4 := step_len (by rw [h5]; simp)
            dsimp only at *
            exact ⟨by omega, g2.2⟩
          · cases h
end Pr
end Go.Proofs.YtonmpealebggoaaDoor
