/- What is written of a condition is read as the same condition: and, or, not, parentheses. No program is in sight here. -/
import Derived.Test.YtonmpealebggoaaDoorPrpRt
namespace Go.Proofs.YtonmpealebggoaaDoor
namespace Pr
/-- A condition's text without parentheses around it. -/
def bareS (f : Nat) (c : Cd) : Src :=
  if c.kind = 0 then cmpS c
  else if c.kind = 1 then wNot ++ [32] ++ showF f (kid c 0) 3
  else if c.kind = 2 then showF f (kid c 0) 2 ++ ([32] ++ wAnd ++ [32]) ++ showF f (kid c 1) 3
  else showF f (kid c 0) 1 ++ ([32] ++ wOr ++ [32]) ++ showF f (kid c 1) 2
theorem show_bare (f : Nat) (c : Cd) (least : Nat) : showF (f + 1) c least = if lev c.kind < least then [40] ++ bareS f c ++ [41] else bareS f c := rfl
def kwOf (least : Nat) : Src := if least = 2 then wAnd else wOr
def kdOf (least : Nat) : Int := if least = 2 then 2 else 3
theorem pCond_low (f least : Nat) (s : St) (h : least < 3) : pCond (f + 1) least s = match pCond f (least + 1) s with
    | none => none
    | some (c, s2) => pMore (pCond f (least + 1)) (kdOf least) (kwOf least) (stLen s2 + 1) c s2 := by
  simp only [pCond]
  rw [if_neg (by omega)]
  rfl
theorem pCond_not (f : Nat) (r : Src) : pCond (f + 1) 3 (wNot, r) = match pCond f 3 (lexW r) with | none => none | some (c, s2) => some (.mk 1 [] 0 0 [c], s2) := rfl
theorem pCond_par (f : Nat) (r : Src) : pCond (f + 1) 3 ([40], r) = match pCond f 1 (lexW r) with
    | none => none
    | some (c, s2) => match pWant [41] s2 with | none => none | some s3 => some (c, s3) := rfl
theorem pCond_cmp (f : Nat) (s : St) (h1 : s.1 ≠ wNot) (h2 : s.1 ≠ [40]) : pCond (f + 1) 3 s = pCompare s := by
  simp only [pCond]
  rw [if_pos (by omega), if_neg h1, if_neg h2]
theorem pMore_end (g : St → Option (Cd × St)) (kd : Int) (kw : Src) (k : Nat) (c : Cd) (s : St) (h : s.1 ≠ kw) : pMore g kd kw (k + 1) c s = some (c, s) := by
  simp only [pMore]; rw [if_neg h]
theorem pMore_go (g : St → Option (Cd × St)) (kd : Int) (kw : Src) (k : Nat) (c d : Cd) (r : Src) (s2 : St) (h : g (lexW r) = some (d, s2)) : pMore g kd kw (k + 1) c (kw, r) = pMore g kd kw k (.mk kd [] 0 0 [c, d]) s2 := by
  simp only [pMore]; rw [if_pos trivial, h]
/-- How many operands of this kind stand on the left. -/
def spn (kd : Int) : Nat → Cd → Nat
  | 0, _ => 0
  | f + 1, c => if c.kind = kd then spn kd f (kid c 0) + 1 else 0
theorem lexW_and (r : Src) : lexW (32 :: (wAnd ++ (32 :: r))) = (wAnd, 32 :: r) := by
  rw [lexW_sp]
  exact lexW_word (c := 97) (w := [110, 100]) (by decide) rfl rfl (good_sp _)
theorem lexW_or (r : Src) : lexW (32 :: (wOr ++ (32 :: r))) = (wOr, 32 :: r) := by
  rw [lexW_sp]
  exact lexW_word (c := 111) (w := [114]) (by decide) rfl rfl (good_sp _)
theorem lexW_not (r : Src) : lexW (wNot ++ (32 :: r)) = (wNot, 32 :: r) := lexW_word (c := 110) (w := [111, 116]) (by decide) rfl rfl (good_sp _)
theorem lexW_open (r : Src) : lexW (40 :: r) = ([40], r) := lexW_one rfl rfl
theorem lexW_shut (r : Src) : lexW (41 :: r) = ([41], r) := lexW_one rfl rfl
theorem good_shut (r : Src) : goodT (41 :: r) := good_cons r rfl
theorem lexW_full {c : UInt8} (h : wsB c = false) (r : Src) : stLen (lexW (c :: r)) = (c :: r).length := by
  unfold lexW
  rw [wordF_len, skipW, if_neg (by rw [h]; simp)]
theorem lexW_mono : ∀ (A X : Src), stLen (lexW X) ≤ stLen (lexW (A ++ X))
  | [], X => Nat.le_refl _
  | c :: A, X => by
    by_cases h : wsB c = true
    · rw [List.cons_append, lexW_ws h]; exact lexW_mono A X
    · rw [List.cons_append, lexW_full (by simpa using h)]
      have := lexW_len X
      simp only [List.length_cons, List.length_append]
      omega
/-- The claims on a condition: read at each level; its operands on the left. -/
def R3 (c : Cd) (T : Src) : Prop := ∀ r : Src, goodT r → ∀ f, 3 * stLen (lexW (T ++ r)) < f → pCond f 3 (lexW (T ++ r)) = some (c, lexW r)
def RL (least : Nat) (c : Cd) (T : Src) : Prop := ∀ r : Src, goodT r → (lexW r).1 ≠ wAnd → (least = 1 → (lexW r).1 ≠ wOr) → ∀ f, 3 * stLen (lexW (T ++ r)) + (3 - least) < f → pCond f least (lexW (T ++ r)) = some (c, lexW r)
def SP (least : Nat) (n : Nat) (c : Cd) (T : Src) : Prop := ∀ r : Src, goodT r → (least = 1 → (lexW r).1 ≠ wAnd) → ∀ f, 3 * stLen (lexW (T ++ r)) + (2 - least) < f → ∃ x s2, pCond f (least + 1) (lexW (T ++ r)) = some (x, s2) ∧ n + stLen (lexW r) ≤ stLen s2 ∧
  ∀ k, pMore (pCond f (least + 1)) (kdOf least) (kwOf least) (k + n) x s2 = pMore (pCond f (least + 1)) (kdOf least) (kwOf least) k c (lexW r)
theorem RL_of_SP {least n : Nat} {c : Cd} {T : Src} (hl : least = 1 ∨ least = 2) (h : SP least n c T) : RL least c T := by
  intro r hr hA hO f hf
  obtain ⟨f', rfl⟩ : ∃ f', f = f' + 1 := ⟨f - 1, by omega⟩
  obtain ⟨x, s2, e1, e2, e3⟩ := h r hr (fun _ => hA) f' (by omega)
  rw [pCond_low f' least _ (by omega), e1]
  dsimp only
  obtain ⟨q, hq⟩ : ∃ q, stLen s2 + 1 = (q + 1) + n := ⟨stLen s2 - n, by omega⟩
  rw [hq, e3, pMore_end]
  rcases hl with rfl | rfl
  · exact hO rfl
  · exact hA
/-- An operand that is not of this kind. -/
theorem SP_of_R {least : Nat} {c : Cd} {T : Src} (hl : least = 1 ∨ least = 2) (h2 : least = 2 → R3 c T) (h1 : least = 1 → RL 2 c T) : SP least 0 c T := by
  intro r hr hA f hf
  refine ⟨c, lexW r, ?_, by omega, fun k => rfl⟩
  rcases hl with rfl | rfl
  · exact h1 rfl r hr (hA rfl) (fun h => absurd h (by decide)) f (by omega)
  · exact h2 rfl r hr f (by omega)
/-- An operator behind its operands on the left. -/
theorem SP_more {least n : Nat} {a b : Cd} {Ta Tb : Src} (hl : least = 1 ∨ least = 2) (ha : SP least n a Ta) (hb2 : least = 2 → R3 b Tb) (hb1 : least = 1 → RL 2 b Tb) :
    SP least (n + 1) (.mk (kdOf least) [] 0 0 [a, b]) (Ta ++ ([32] ++ kwOf least ++ [32]) ++ Tb) := by
  intro r hr hA f hf
  have hT : Ta ++ ([32] ++ kwOf least ++ [32]) ++ Tb ++ r = Ta ++ (32 :: (kwOf least ++ (32 :: (Tb ++ r)))) := by simp [List.append_assoc]
  rw [hT] at hf ⊢
  have hlx : lexW (32 :: (kwOf least ++ (32 :: (Tb ++ r)))) = (kwOf least, 32 :: (Tb ++ r)) := by
    rcases hl with rfl | rfl
    · exact lexW_or _
    · exact lexW_and _
  obtain ⟨x, s2, e1, e2, e3⟩ := ha (32 :: (kwOf least ++ (32 :: (Tb ++ r)))) (good_sp _) (fun h => by rw [hlx, h]; exact (by decide : kwOf 1 ≠ wAnd)) f hf
  rw [hlx] at e2 e3
  refine ⟨x, s2, e1, ?_, fun k => ?_⟩
  · have h1 := lexW_len r
    have h3 : (kwOf least).length ≠ 0 := by rcases hl with rfl | rfl <;> decide
    simp only [stLen, List.length_cons, List.length_append] at e2 h1 ⊢
    omega
  · have e4 := e3 (k + 1)
    rw [Nat.add_right_comm] at e4
    rw [show k + (n + 1) = k + n + 1 by omega, e4]
    refine pMore_go _ _ _ _ _ _ _ _ ?_
    rw [lexW_sp]
    have hle : 3 * stLen (lexW (Tb ++ r)) + 3 < f := by
      have h1 := lexW_len (Tb ++ r)
      have h4 := lexW_mono Ta (32 :: (kwOf least ++ (32 :: (Tb ++ r))))
      have h5 : (kwOf least).length ≠ 0 := by rcases hl with rfl | rfl <;> decide
      rw [hlx] at h4
      simp only [stLen, List.length_cons] at h4 h1 hf ⊢
      omega
    rcases hl with rfl | rfl
    · exact hb1 rfl r hr (hA rfl) (fun h => absurd h (by decide)) f (by omega)
    · exact hb2 rfl r hr f (by omega)
/-- Not, and what stands in parentheses. -/
theorem R3_not {a : Cd} {Ta : Src} (h : R3 a Ta) : R3 (.mk 1 [] 0 0 [a]) (wNot ++ [32] ++ Ta) := by
  intro r hr f hf
  have hT : wNot ++ [32] ++ Ta ++ r = wNot ++ (32 :: (Ta ++ r)) := by simp [List.append_assoc]
  rw [hT, lexW_not] at hf ⊢
  obtain ⟨f', rfl⟩ : ∃ f', f = f' + 1 := ⟨f - 1, by omega⟩
  have h1 := lexW_len (Ta ++ r)
  simp only [stLen, List.length_cons, wNot, List.length_nil] at hf h1
  rw [pCond_not, lexW_sp, h r hr f' (by simp only [stLen]; omega)]
theorem R3_par {c : Cd} {T : Src} (h : RL 1 c T) : R3 c ([40] ++ T ++ [41]) := by
  intro r hr f hf
  have hT : [40] ++ T ++ [41] ++ r = 40 :: (T ++ (41 :: r)) := by simp [List.append_assoc]
  rw [hT, lexW_open] at hf ⊢
  obtain ⟨f', rfl⟩ : ∃ f', f = f' + 1 := ⟨f - 1, by omega⟩
  have h1 := lexW_len (T ++ (41 :: r))
  simp only [stLen, List.length_cons, List.length_nil] at hf h1
  rw [pCond_par, h (41 :: r) (good_shut _) (by rw [lexW_shut]; exact (by decide : ([41] : Src) ≠ wAnd)) (fun _ => by rw [lexW_shut]; exact (by decide : ([41] : Src) ≠ wOr)) f' (by simp only [stLen]; omega)]
  dsimp only
  rw [lexW_shut]
  rfl
theorem R3_cmp {c : Cd} (hk : c.kind = 0) (h : compareE c = 0) : R3 c (cmpS c) := by
  intro r hr f hf
  obtain ⟨f', rfl⟩ : ∃ f', f = f' + 1 := ⟨f - 1, by omega⟩
  obtain ⟨h1, h2, h3⟩ := compare_read hk h hr
  rw [pCond_cmp f' _ h2 h3, h1]
/-- All claims at a depth. -/
structure AllR (f : Nat) (c : Cd) : Prop where
  r3 : R3 c (showF f c 3)
  r2 : RL 2 c (showF f c 2)
  r1 : RL 1 c (showF f c 1)
  s2 : SP 2 (spn 2 f c) c (showF f c 2)
  s1 : SP 1 (spn 3 f c) c (showF f c 1)
theorem all_read : ∀ (f : Nat) (c : Cd), VC f c → AllR f c
  | 0, c, h => h.elim
  | f + 1, c, h => by
    have hb := show_bare f c
    rcases h with ⟨hk, hc⟩ | ⟨hk, a, e, ha⟩ | ⟨hk, a, b, e, ha, hbv⟩
    · have e0 : bareS f c = cmpS c := by unfold bareS; rw [if_pos hk]
      have hl : lev c.kind = 3 := by rw [hk]; rfl
      have k3 : showF (f + 1) c 3 = cmpS c := by rw [hb, if_neg (by omega), e0]
      have k2 : showF (f + 1) c 2 = cmpS c := by rw [hb, if_neg (by omega), e0]
      have k1 : showF (f + 1) c 1 = cmpS c := by rw [hb, if_neg (by omega), e0]
      have n2 : spn 2 (f + 1) c = 0 := by simp only [spn]; rw [if_neg (by omega)]
      have n3 : spn 3 (f + 1) c = 0 := by simp only [spn]; rw [if_neg (by omega)]
      have r3 := R3_cmp hk hc
      have s2 := SP_of_R (least := 2) (.inr rfl) (fun _ => r3) (fun h => absurd h (by decide))
      have r2 := RL_of_SP (.inr rfl) s2
      have s1 := SP_of_R (least := 1) (.inl rfl) (fun h => absurd h (by decide)) (fun _ => r2)
      exact ⟨by rw [k3]; exact r3, by rw [k2]; exact r2, by rw [k1]; exact RL_of_SP (.inl rfl) s1, by rw [k2, n2]; exact s2, by rw [k1, n3]; exact s1⟩
    · have ih := all_read f a ha
      have e0 : bareS f c = wNot ++ [32] ++ showF f a 3 := by unfold bareS; rw [if_neg (by omega), if_pos hk, e]; rfl
      have hl : lev c.kind = 3 := by rw [hk]; rfl
      have k3 : showF (f + 1) c 3 = wNot ++ [32] ++ showF f a 3 := by rw [hb, if_neg (by omega), e0]
      have k2 : showF (f + 1) c 2 = wNot ++ [32] ++ showF f a 3 := by rw [hb, if_neg (by omega), e0]
      have k1 : showF (f + 1) c 1 = wNot ++ [32] ++ showF f a 3 := by rw [hb, if_neg (by omega), e0]
      have n2 : spn 2 (f + 1) c = 0 := by simp only [spn]; rw [if_neg (by omega)]
      have n3 : spn 3 (f + 1) c = 0 := by simp only [spn]; rw [if_neg (by omega)]
      have r3 : R3 c (wNot ++ [32] ++ showF f a 3) := by rw [e]; exact R3_not ih.r3
      have s2 := SP_of_R (least := 2) (.inr rfl) (fun _ => r3) (fun h => absurd h (by decide))
      have r2 := RL_of_SP (.inr rfl) s2
      have s1 := SP_of_R (least := 1) (.inl rfl) (fun h => absurd h (by decide)) (fun _ => r2)
      exact ⟨by rw [k3]; exact r3, by rw [k2]; exact r2, by rw [k1]; exact RL_of_SP (.inl rfl) s1, by rw [k2, n2]; exact s2, by rw [k1, n3]; exact s1⟩
    · have iha := all_read f a ha
      have ihb := all_read f b hbv
      rcases hk with hk | hk
      · rw [hk] at e
        have e0 : bareS f c = showF f a 2 ++ ([32] ++ kwOf 2 ++ [32]) ++ showF f b 3 := by unfold bareS; rw [if_neg (by omega), if_neg (by omega), if_pos hk, e]; rfl
        have hl : lev c.kind = 2 := by rw [hk]; rfl
        have k3 : showF (f + 1) c 3 = [40] ++ bareS f c ++ [41] := by rw [hb, if_pos (by omega)]
        have k2 : showF (f + 1) c 2 = bareS f c := by rw [hb, if_neg (by omega)]
        have k1 : showF (f + 1) c 1 = bareS f c := by rw [hb, if_neg (by omega)]
        have n2 : spn 2 (f + 1) c = spn 2 f a + 1 := by simp only [spn]; rw [if_pos hk, e]; rfl
        have n3 : spn 3 (f + 1) c = 0 := by simp only [spn]; rw [if_neg (by omega)]
        have s2 : SP 2 (spn 2 f a + 1) c (bareS f c) := by
          rw [e0]
          have := SP_more (least := 2) (a := a) (b := b) (.inr rfl) iha.s2 (fun _ => ihb.r3) (fun h => absurd h (by decide))
          rw [e]; exact this
        have r2 := RL_of_SP (.inr rfl) s2
        have s1 := SP_of_R (least := 1) (.inl rfl) (fun h => absurd h (by decide)) (fun _ => r2)
        have r1 := RL_of_SP (.inl rfl) s1
        exact ⟨by rw [k3]; exact R3_par r1, by rw [k2]; exact r2, by rw [k1]; exact r1, by rw [k2, n2]; exact s2, by rw [k1, n3]; exact s1⟩
      · rw [hk] at e
        have e0 : bareS f c = showF f a 1 ++ ([32] ++ kwOf 1 ++ [32]) ++ showF f b 2 := by unfold bareS; rw [if_neg (by omega), if_neg (by omega), if_neg (by omega), e]; rfl
        have hl : lev c.kind = 1 := by rw [hk]; rfl
        have k3 : showF (f + 1) c 3 = [40] ++ bareS f c ++ [41] := by rw [hb, if_pos (by omega)]
        have k2 : showF (f + 1) c 2 = [40] ++ bareS f c ++ [41] := by rw [hb, if_pos (by omega)]
        have k1 : showF (f + 1) c 1 = bareS f c := by rw [hb, if_neg (by omega)]
        have n2 : spn 2 (f + 1) c = 0 := by simp only [spn]; rw [if_neg (by omega)]
        have n3 : spn 3 (f + 1) c = spn 3 f a + 1 := by simp only [spn]; rw [if_pos hk, e]; rfl
        have s1 : SP 1 (spn 3 f a + 1) c (bareS f c) := by
          rw [e0]
          have := SP_more (least := 1) (a := a) (b := b) (.inl rfl) iha.s1 (fun h => absurd h (by decide)) (fun _ => ihb.r2)
          rw [e]; exact this
        have r1 := RL_of_SP (.inl rfl) s1
        have r3 := R3_par r1
        have s2 := SP_of_R (least := 2) (.inr rfl) (fun _ => r3) (fun h => absurd h (by decide))
        exact ⟨by rw [k3]; exact r3, by rw [k2]; exact RL_of_SP (.inr rfl) s2, by rw [k1]; exact r1, by rw [k2, n2]; exact s2, by rw [k1, n3]; exact s1⟩
/-- A condition's text is read as the condition. -/
theorem cond_read {f : Nat} {c : Cd} (h : VC f c) {r : Src} (hr : goodT r) (h1 : (lexW r).1 ≠ wAnd) (h2 : (lexW r).1 ≠ wOr) : pCond (workN (lexW (showF f c 0 ++ r))) 1 (lexW (showF f c 0 ++ r)) = some (c, lexW r) := by
  have e : showF f c 0 = showF f c 1 := by
    cases f with
    | zero => exact h.elim
    | succ f =>
      have hl : 1 ≤ lev c.kind := by unfold lev; split; omega; split <;> omega
      rw [show_bare, show_bare, if_neg (by omega), if_neg (by omega)]
  rw [e]
  exact (all_read f c h).r1 r hr h1 (fun _ => h2) _ (by unfold workN; omega)
end Pr
end Go.Proofs.YtonmpealebggoaaDoor
