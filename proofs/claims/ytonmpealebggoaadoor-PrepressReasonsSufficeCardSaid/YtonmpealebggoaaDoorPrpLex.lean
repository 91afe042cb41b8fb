/- Words: what is written is read. No program is in sight here. -/
import Derived.Test.YtonmpealebggoaaDoorPrpPlain
import Derived.Lib.AtoiAllCases
namespace Go.Proofs.YtonmpealebggoaaDoor
namespace Pr
theorem skipW_le : ∀ l : Src, (skipW l).length ≤ l.length
  | [] => Nat.le_refl _
  | c :: r => by
    simp only [skipW]
    split
    · exact Nat.le_trans (skipW_le r) (by simp)
    · exact Nat.le_refl _
theorem runN_le (k : Nat) : ∀ l : Src, runN k l ≤ l.length
  | [] => Nat.le_refl _
  | c :: r => by
    have := runN_le k r
    simp only [runN]
    split
    · simp; omega
    · exact Nat.zero_le _
theorem wordF_len (l : Src) : stLen (wordF l) = l.length := by
  cases l with
  | nil => rfl
  | cons c r =>
    have := runN_le (cls c) r
    simp only [wordF]
    split
    · simp [stLen]; omega
    · simp [stLen]; omega
theorem wordF_eq (l : Src) : (wordF l).1 ++ (wordF l).2 = l := by
  cases l with
  | nil => rfl
  | cons c r =>
    simp only [wordF]
    split
    · rfl
    · simp
theorem lexW_len (l : Src) : stLen (lexW l) ≤ l.length := by unfold lexW; rw [wordF_len]; exact skipW_le l
theorem wordF_ne {l : Src} (h : l ≠ []) : (wordF l).1 ≠ [] := by
  cases l with
  | nil => exact absurd rfl h
  | cons c r => simp only [wordF]; split <;> simp
theorem lexW_nil : lexW [] = ([], []) := rfl
theorem lexW_ws {c : UInt8} (h : wsB c = true) (r : Src) : lexW (c :: r) = lexW r := by unfold lexW; rw [skipW, if_pos h]
theorem lexW_sp (r : Src) : lexW (32 :: r) = lexW r := lexW_ws rfl r
theorem lexW_lf (r : Src) : lexW (10 :: r) = lexW r := lexW_ws rfl r
/-- A word ends ahead of this. -/
def endsB (k : Nat) (t : Src) : Prop := ∀ c r, t = c :: r → goesOn k c = false
theorem runN_all {k : Nat} : ∀ {w : Src} {t : Src}, w.all (goesOn k) = true → endsB k t → runN k (w ++ t) = w.length
  | [], t, _, ht => by
    cases t with
    | nil => rfl
    | cons c r => simp only [List.nil_append, runN]; rw [if_neg (by rw [ht c r rfl]; simp)]; rfl
  | c :: w, t, h, ht => by
    rw [List.all_cons, Bool.and_eq_true] at h
    simp only [List.cons_append, runN]
    rw [if_pos h.1, runN_all h.2 ht]
    rfl
theorem lexW_word {c : UInt8} {w t : Src} (hk : cls c ≠ 0) (hs : wsB c = false) (h : w.all (goesOn (cls c)) = true) (ht : endsB (cls c) t) : lexW (c :: w ++ t) = (c :: w, t) := by
  unfold lexW
  rw [List.cons_append, skipW, if_neg (by rw [hs]; simp)]
  simp only [wordF]
  rw [if_neg hk, runN_all h ht, List.take_left, List.drop_left]
theorem lexW_one {c : UInt8} {t : Src} (hk : cls c = 0) (hs : wsB c = false) : lexW (c :: t) = ([c], t) := by
  unfold lexW
  rw [skipW, if_neg (by rw [hs]; simp)]
  simp only [wordF]
  rw [if_pos hk]
theorem low_cls {c : UInt8} (h : lowB c = true) : cls c = 1 := by unfold cls; rw [if_pos (.inl h)]
theorem dig_cls {c : UInt8} (h : digB c = true) : cls c = 1 := by unfold cls; rw [if_pos (.inr h)]
theorem nm_goes {c : UInt8} (h : nmB c = true) : goesOn 1 c = true := by
  unfold nmB at h
  unfold goesOn
  rw [Bool.or_eq_true, Bool.or_eq_true] at h
  rcases h with (h | h) | h
  · rw [low_cls h]; rfl
  · rw [dig_cls h]; rfl
  · rw [h]; simp
theorem cls1_ws {c : UInt8} (h : lowB c = true ∨ digB c = true) : wsB c = false := by
  unfold wsB
  rw [Bool.or_eq_false_iff]
  simp only [lowB, digB, decide_eq_true_eq] at h
  constructor
  · rw [beq_eq_false_iff_ne]; rintro rfl; rcases h with h | h <;> revert h <;> decide
  · rw [beq_eq_false_iff_ne]; rintro rfl; rcases h with h | h <;> revert h <;> decide
/-- What ends a name or a number. -/
def goodT (t : Src) : Prop := endsB 1 t
theorem good_sp (r : Src) : goodT (32 :: r) := fun c r' e => by injection e with e _; subst e; rfl
theorem good_nil : goodT [] := fun c r e => by cases e
theorem good_cons {c : UInt8} (r : Src) (h : goesOn 1 c = false) : goodT (c :: r) := fun c' r' e => by injection e with e _; subst e; exact h
theorem plain_parts {s : Src} (h : plainB s = true) : ∃ c r, s = c :: r ∧ lowB c = true ∧ r.all nmB = true ∧ s.length ≤ 16 ∧ s ≠ wRule ∧ s ≠ wNot ∧ s ≠ wAnd ∧ s ≠ wOr := by
  cases s with
  | nil => simp [plainB] at h
  | cons c r =>
    simp only [plainB, Bool.and_eq_true, Bool.not_eq_true', Bool.or_eq_false_iff, beq_eq_false_iff_ne, decide_eq_true_eq] at h
    obtain ⟨⟨⟨h1, h2⟩, h3⟩, ⟨⟨h4, h5⟩, h6⟩, h7⟩ := h
    exact ⟨c, r, rfl, h1, h2, h3, h4, h5, h6, h7⟩
theorem lexW_name {s t : Src} (h : plainB s = true) (ht : goodT t) : lexW (s ++ t) = (s, t) := by
  obtain ⟨c, r, rfl, h1, h2, _⟩ := plain_parts h
  have hc := low_cls h1
  refine lexW_word (by rw [hc]; decide) (cls1_ws (.inl h1)) ?_ (by rw [hc]; exact ht)
  rw [hc, List.all_eq_true]
  intro x hx
  exact nm_goes (List.all_eq_true.1 h2 x hx)
theorem name_num {s : Src} (h : plainB s = true) : numB s = false := by
  obtain ⟨c, r, rfl, h1, _⟩ := plain_parts h
  simp only [lowB, decide_eq_true_eq] at h1
  simp only [numB, decide_eq_false_iff_not]
  omega
/-! Numerals. -/
theorem dec_digits (u : Nat) : ∃ c r, Lib.decDigits u = c :: r ∧ (c :: r).all digB = true := by
  induction u using Nat.strongRecOn with
  | ind u ih =>
    rw [Lib.decDigits]
    by_cases h : u < 10
    · rw [dif_pos h]
      refine ⟨_, _, rfl, ?_⟩
      have : (UInt8.ofNat (48 + u)).toNat = 48 + u := by rw [UInt8.toNat_ofNat']; omega
      simp only [List.all_cons, List.all_nil, Bool.and_true, digB, this, decide_eq_true_eq]
      omega
    · rw [dif_neg h]
      obtain ⟨c, r, e, ha⟩ := ih (u / 10) (by omega)
      refine ⟨c, r ++ [UInt8.ofNat (48 + u % 10)], by rw [e]; rfl, ?_⟩
      have : (UInt8.ofNat (48 + u % 10)).toNat = 48 + u % 10 := by rw [UInt8.toNat_ofNat']; omega
      rw [← List.cons_append, List.all_append, ha, Bool.true_and]
      simp only [List.all_cons, List.all_nil, Bool.and_true, digB, this, decide_eq_true_eq]
      omega
theorem dig_goes {c : UInt8} (h : digB c = true) : goesOn 1 c = true := by unfold goesOn; rw [dig_cls h]; rfl
theorem lexW_dec (u : Nat) {t : Src} (ht : goodT t) : lexW (Lib.decDigits u ++ t) = (Lib.decDigits u, t) := by
  obtain ⟨c, r, e, ha⟩ := dec_digits u
  rw [List.all_cons, Bool.and_eq_true] at ha
  rw [e]
  have hc := dig_cls ha.1
  refine lexW_word (by rw [hc]; decide) (cls1_ws (.inr ha.1)) ?_ (by rw [hc]; exact ht)
  rw [hc, List.all_eq_true]
  intro x hx
  exact dig_goes (List.all_eq_true.1 ha.2 x hx)
theorem parse_dec (u : Nat) (hu : u ≤ 1000000000000) : ∀ t : Src, Lib.parseUint10 0 (Lib.decDigits u ++ t) = Lib.parseUint10 u t := by
  induction u using Nat.strongRecOn with
  | ind u ih =>
    intro t
    rw [Lib.decDigits]
    by_cases h : u < 10
    · rw [dif_pos h]
      have : (UInt8.ofNat (48 + u)).toNat = 48 + u := by rw [UInt8.toNat_ofNat']; omega
      simp only [List.cons_append, List.nil_append, Lib.parseUint10, this]
      rw [if_pos (by omega), if_neg (by omega), if_neg (by omega)]
      congr 1; omega
    · rw [dif_neg h]
      have : (UInt8.ofNat (48 + u % 10)).toNat = 48 + u % 10 := by rw [UInt8.toNat_ofNat']; omega
      rw [List.append_assoc, ih (u / 10) (by omega) (by omega)]
      simp only [List.cons_append, List.nil_append, Lib.parseUint10, this]
      rw [if_pos (by omega), if_neg (by omega), if_neg (by omega)]
      congr 1; omega
theorem itoa_nat (u : Nat) : Lib.itoa (u : Int) = Lib.decDigits u := by unfold Lib.itoa; rw [if_neg (by omega)]; rfl
theorem atoi_dec (u : Nat) (hu : u ≤ 1000000000000) : Lib.atoiAll (Lib.decDigits u) = .ok (u : Int) := by
  obtain ⟨c, r, e, ha⟩ := dec_digits u
  rw [List.all_cons, Bool.and_eq_true] at ha
  have hc : 48 ≤ c.toNat ∧ c.toNat ≤ 57 := by simpa [digB] using ha.1
  have hp := parse_dec u hu []
  rw [List.append_nil, e] at hp
  rw [e, Lib.atoiAll_plain c r (by omega) (by omega)]
  unfold Lib.parseMag
  rw [if_neg (by simp), hp]
  show Lib.signless (.ok u) = _
  unfold Lib.signless
  simp
  omega
theorem numV_dec (u : Nat) (most : Int) (h : (u : Int) ≤ most) (hm : most ≤ 1000000000000) : numV most (Lib.itoa (u : Int)) = some (u : Int) := by
  unfold numV
  rw [itoa_nat, atoi_dec u (by omega)]
  dsimp only
  rw [if_pos ⟨by omega, h, itoa_nat u⟩]
theorem lexW_itoa (u : Nat) {t : Src} (ht : goodT t) : lexW (Lib.itoa (u : Int) ++ t) = (Lib.itoa (u : Int), t) := by rw [itoa_nat]; exact lexW_dec u ht
theorem numB_itoa (u : Nat) : numB (Lib.itoa (u : Int)) = true := by
  obtain ⟨c, r, e, ha⟩ := dec_digits u
  rw [List.all_cons, Bool.and_eq_true] at ha
  rw [itoa_nat, e]
  have := ha.1
  simp only [digB, decide_eq_true_eq] at this
  simp only [numB, decide_eq_true_eq]
  omega
end Pr
end Go.Proofs.YtonmpealebggoaaDoor
