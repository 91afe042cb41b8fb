/- What is written of rules is read as the same rules. No program is in sight here. -/
import Derived.Test.YtonmpealebggoaaDoorPrpRt2
namespace Go.Proofs.YtonmpealebggoaaDoor
namespace Pr
structure RlOk (r : Rl) : Prop where
  nm : plainB r.1 = true
  cd : VC 12 r.2
theorem rules_ok : ∀ {pre l : List Rl}, rulesE pre l = 0 → ∀ r ∈ l, RlOk r
  | _, [], _, r, hr => by cases hr
  | pre, x :: l, h, r, hr => by
    simp only [rulesE] at h
    by_cases e : ruleE pre x ≠ 0
    · rw [if_pos e] at h; exact absurd h e
    · rw [if_neg e] at h
      rcases List.mem_cons.1 hr with rfl | hr
      · have e : ruleE pre r = 0 := by simpa using e
        unfold ruleE at e
        split at e
        · simp at e
        split at e
        · simp at e
        rename_i h1 h2
        exact ⟨by simpa using h1, cond_valid 12 0 r.2 e⟩
      · exact rules_ok h r hr
theorem check_ok {l : List Rl} (h : checkE l = 0) : l.length ≤ 32 ∧ rulesE [] l = 0 ∧ (printS l).length ≤ 4096 := by
  unfold checkE at h
  split at h
  · simp at h
  split at h
  · rename_i h1; exact absurd h h1
  split at h
  · simp at h
  rename_i h1 h2 h3
  exact ⟨by omega, by simpa using h2, by omega⟩
theorem lexW_colon (r : Src) : lexW (58 :: r) = ([58], r) := lexW_one rfl rfl
theorem lexW_semi (r : Src) : lexW (59 :: r) = ([59], r) := lexW_one rfl rfl
theorem lexW_rule (r : Src) : lexW (wRule ++ (32 :: r)) = (wRule, 32 :: r) := lexW_word (c := 114) (w := [117, 108, 101]) (by decide) rfl rfl (good_sp _)
theorem rule_read {r : Rl} (h : RlOk r) (t : Src) : pRule (lexW (lineS r ++ t)) = some (r, lexW t) := by
  have hT : lineS r ++ t = wRule ++ (32 :: (r.1 ++ (58 :: (32 :: (showF 12 r.2 0 ++ (59 :: (10 :: t))))))) := by simp [lineS, List.append_assoc]
  rw [hT, lexW_rule]
  unfold pRule pWant
  dsimp only
  rw [if_pos rfl]
  dsimp only
  rw [lexW_sp, lexW_name h.nm (good_cons _ rfl)]
  unfold pName
  dsimp only
  rw [if_pos h.nm]
  dsimp only
  rw [lexW_colon]
  dsimp only
  rw [if_pos rfl]
  dsimp only
  rw [lexW_sp, cond_read h.cd (good_cons _ rfl) (by rw [lexW_semi]; exact (by decide : ([59] : Src) ≠ wAnd)) (by rw [lexW_semi]; exact (by decide : ([59] : Src) ≠ wOr))]
  dsimp only
  rw [lexW_semi, if_pos rfl]
  dsimp only
  rw [lexW_lf]
theorem pRules_read : ∀ (l : List Rl), (∀ r ∈ l, RlOk r) → ∀ (t : Src) (k : Nat) (acc : List Rl), pRules (k + l.length) acc (lexW (printS l ++ t)) = pRules k (acc ++ l) (lexW t)
  | [], _, t, k, acc => by simp [printS]
  | r :: l, h, t, k, acc => by
    have hr := rule_read (h r (by simp)) (printS l ++ t)
    have ih := pRules_read l (fun x hx => h x (by simp [hx])) t k (acc ++ [r])
    have hT : printS (r :: l) ++ t = lineS r ++ (printS l ++ t) := by simp [printS, List.append_assoc]
    rw [hT, List.length_cons, ← Nat.add_assoc]
    have hne : (lexW (lineS r ++ (printS l ++ t))).1 ≠ [] := by
      have : lineS r ++ (printS l ++ t) = wRule ++ (32 :: (r.1 ++ (58 :: (32 :: (showF 12 r.2 0 ++ (59 :: (10 :: (printS l ++ t)))))))) := by simp [lineS, List.append_assoc]
      rw [this, lexW_rule]; exact (by decide : wRule ≠ [])
    simp only [pRules]
    rw [if_neg hne, hr]
    dsimp only
    rw [ih, List.append_assoc]
    rfl
theorem line_len (r : Rl) : 1 ≤ (lineS r).length := by simp [lineS, wRule]
theorem print_len : ∀ l : List Rl, l.length ≤ (printS l).length
  | [] => Nat.le_refl _
  | r :: l => by
    have h1 := print_len l
    have h2 := line_len r
    simp only [printS, List.flatMap_cons, List.length_append, List.length_cons] at h1 ⊢
    omega
theorem parse_print {l : List Rl} (h : ∀ r ∈ l, RlOk r) : parseS (printS l) = some l := by
  have h1 := pRules_read l h [] ((printS l).length + 1 - l.length) []
  have h2 := print_len l
  unfold parseS
  rw [List.append_nil, show (printS l).length + 1 - l.length + l.length = (printS l).length + 1 by omega] at h1
  rw [h1, List.nil_append]
  obtain ⟨q, hq⟩ : ∃ q, (printS l).length + 1 - l.length = q + 1 := ⟨(printS l).length - l.length, by omega⟩
  rw [hq]
  rfl
end Pr
end Go.Proofs.YtonmpealebggoaaDoor
