/- What is written of a condition is read as the same condition. No program is in sight here. -/
import Derived.Test.YtonmpealebggoaaDoorPrpLex
namespace Go.Proofs.YtonmpealebggoaaDoor
namespace Pr
/-- A condition without an error, of depth f at most. -/
def VC : Nat → Cd → Prop
  | 0, _ => False
  | f + 1, c => (c.kind = 0 ∧ compareE c = 0) ∨ (c.kind = 1 ∧ ∃ a, c = .mk 1 [] 0 0 [a] ∧ VC f a) ∨ ((c.kind = 2 ∨ c.kind = 3) ∧ ∃ a b, c = .mk c.kind [] 0 0 [a, b] ∧ VC f a ∧ VC f b)
theorem kids_zero {g : Nat → Cd → Int × Nat} : ∀ {n : Nat} {l : List Cd}, (kidsF g n l).1 = 0 → ∀ c ∈ l, ∃ m, (g m c).1 = 0
  | n, [], _, c, hc => by cases hc
  | n, k :: r, h, c, hc => by
    simp only [kidsF] at h
    by_cases e : (g n k).1 ≠ 0
    · rw [if_pos e] at h; exact absurd h e
    · rw [if_neg e] at h
      rcases List.mem_cons.1 hc with rfl | hc
      · exact ⟨n, by simpa using e⟩
      · exact kids_zero h c hc
theorem cond_valid : ∀ (f n : Nat) (c : Cd), (condF f n c).1 = 0 → VC f c
  | 0, n, c, h => by
    simp only [condF] at h
    split at h <;> simp at h
  | f + 1, n, c, h => by
    simp only [condF] at h
    by_cases g1 : 256 < n + 1
    · rw [if_pos g1] at h; simp at h
    rw [if_neg g1] at h
    by_cases h0 : c.kind = 0
    · rw [if_pos h0] at h
      exact .inl ⟨h0, h⟩
    rw [if_neg h0] at h
    by_cases h2 : c.kind < 1 ∨ 3 < c.kind
    · rw [if_pos h2] at h; simp at h
    rw [if_neg h2] at h
    by_cases h3 : 0 < c.terms.length ∨ c.cmp ≠ 0 ∨ c.than ≠ 0 ∨ (c.kids.length : Int) ≠ (if c.kind = 1 then 1 else 2)
    · rw [if_pos h3] at h; simp at h
    rw [if_neg h3] at h
    have hl1 : c.kind = 1 → c.kids.length = 1 := fun e => by rw [if_pos e] at h3; omega
    have hl2 : c.kind ≠ 1 → c.kids.length = 2 := fun e => by rw [if_neg e] at h3; omega
    have hz : c.terms.length = 0 ∧ c.cmp = 0 ∧ c.than = 0 := by omega
    clear h3
    obtain ⟨k, ts, cm, th, ks⟩ := c
    simp only [Cd.kind, Cd.terms, Cd.cmp, Cd.than, Cd.kids] at *
    have e1 : ts = [] := List.eq_nil_of_length_eq_zero (by omega)
    have e2 : cm = 0 := by omega
    have e3 : th = 0 := by omega
    subst e1 e2 e3
    have hv : ∀ a ∈ ks, VC f a := fun a ha => by obtain ⟨m, hm⟩ := kids_zero h a ha; exact cond_valid f m a hm
    by_cases k1 : k = 1
    · subst k1
      have hl := hl1 rfl
      match ks, hl, hv with
      | [a], _, hv => exact .inr (.inl ⟨rfl, a, rfl, hv a (by simp)⟩)
    · have hl := hl2 k1
      match ks, hl, hv with
      | [a, b], _, hv => exact .inr (.inr ⟨by simp [Cd.kind]; omega, a, b, rfl, hv a (by simp), hv b (by simp)⟩)
/-! Comparisons. -/
structure TmOk (t : Tm) : Prop where
  lo : -1000 ≤ t.1
  hi : t.1 ≤ 1000
  ne : t.1 ≠ 0
  nm : plainB t.2 = true
theorem terms_ok : ∀ {pre l : List Tm}, termsE pre l = 0 → ∀ t ∈ l, TmOk t
  | _, [], _, t, ht => by cases ht
  | pre, x :: r, h, t, ht => by
    simp only [termsE] at h
    by_cases e : termE pre x ≠ 0
    · rw [if_pos e] at h; exact absurd h e
    · rw [if_neg e] at h
      rcases List.mem_cons.1 ht with rfl | ht
      · have e : termE pre t = 0 := by simpa using e
        unfold termE at e
        split at e
        · simp at e
        split at e
        · simp at e
        rename_i h1 h2
        exact ⟨by omega, by omega, by omega, by simpa using h2⟩
      · exact terms_ok h t ht
/-- A number and a name, as a term has them behind its sign. -/
def bodyS (t : Tm) : Src := (if t.1.natAbs ≠ 1 then Lib.itoa (t.1.natAbs : Int) ++ [32] else []) ++ t.2
theorem pTerm_body {t : Tm} (h : TmOk t) {r : Src} (hr : goodT r) (sign : Int) (hs : sign * t.1.natAbs = t.1) (hs1 : t.1.natAbs = 1 → sign = t.1) :
    pTerm sign (lexW (bodyS t ++ r)) = some (t, lexW r) := by
  unfold bodyS
  by_cases h1 : t.1.natAbs ≠ 1
  · rw [if_pos h1, List.append_assoc, List.append_assoc, List.cons_append, List.nil_append, lexW_itoa _ (good_sp _)]
    unfold pTerm
    dsimp only
    rw [if_pos (numB_itoa _)]
    unfold pNum
    dsimp only
    rw [numV_dec _ 1000 (by have := h.lo; have := h.hi; omega) (by omega)]
    dsimp only
    show (match pName (lexW (32 :: (t.2 ++ r))) with | none => none | some (nm, s3) => some ((sign * (t.1.natAbs : Int), nm), s3)) = _
    rw [lexW_sp, lexW_name h.nm hr]
    unfold pName
    dsimp only
    rw [if_pos h.nm, hs]
  · rw [if_neg h1, List.nil_append, lexW_name h.nm hr]
    unfold pTerm
    dsimp only
    rw [if_neg (by rw [name_num h.nm]; simp)]
    unfold pName
    dsimp only
    rw [if_pos h.nm, hs1 (by omega)]
theorem termS_body (i : Nat) (t : Tm) : termS i t = (if 0 < i then (if t.1 < 0 then [32, 45, 32] else [32, 43, 32]) else if t.1 < 0 then [45] else []) ++ bodyS t := by
  unfold termS bodyS; rw [List.append_assoc]
theorem lexW_plus (r : Src) : lexW (43 :: r) = ([43], r) := lexW_one rfl rfl
theorem lexW_minus (r : Src) : lexW (45 :: r) = ([45], r) := lexW_one rfl rfl
theorem body_first {t : Tm} (h : TmOk t) {r : Src} (hr : goodT r) : (lexW (bodyS t ++ r)).1 ≠ [45] ∧ (lexW (bodyS t ++ r)).1 ≠ wNot ∧ (lexW (bodyS t ++ r)).1 ≠ [40] := by
  unfold bodyS
  by_cases h1 : t.1.natAbs ≠ 1
  · rw [if_pos h1, List.append_assoc, List.append_assoc, List.cons_append, List.nil_append, lexW_itoa _ (good_sp _)]
    have hn := numB_itoa t.1.natAbs
    obtain ⟨c, q, e, ha⟩ := dec_digits t.1.natAbs
    rw [List.all_cons, Bool.and_eq_true] at ha
    have hc : 48 ≤ c.toNat ∧ c.toNat ≤ 57 := by simpa [digB] using ha.1
    rw [itoa_nat, e]
    refine ⟨fun e => ?_, fun e => ?_, fun e => ?_⟩
    · injection e with e _; subst e; revert hc; decide
    · injection e with e _; subst e; revert hc; decide
    · injection e with e _; subst e; revert hc; decide
  · rw [if_neg h1, List.nil_append, lexW_name h.nm hr]
    obtain ⟨c, q, e, h2, _, _, _, h3, _⟩ := plain_parts h.nm
    refine ⟨fun e' => ?_, h3, fun e' => ?_⟩
    · rw [e] at e'; injection e' with e' _; subst e'; revert h2; decide
    · rw [e] at e'; injection e' with e' _; subst e'; revert h2; decide
theorem goodT_terms : ∀ (l : List Tm) (i : Nat) {r : Src}, 0 < i → goodT r → goodT (termsS i l ++ r)
  | [], i, r, _, hr => hr
  | t :: l, i, r, hi, hr => by
    simp only [termsS]
    rw [termS_body, if_pos hi]
    split <;> exact good_sp _
theorem pTerms_read : ∀ (l : List Tm) (i : Nat), 0 < i → (∀ t ∈ l, TmOk t) → ∀ (r : Src), goodT r → ∀ (k : Nat) (acc : List Tm), pTerms (k + l.length) acc (lexW (termsS i l ++ r)) = pTerms k (acc ++ l) (lexW r)
  | [], i, _, _, r, _, k, acc => by simp [termsS]
  | t :: l, i, hi, h, r, hr, k, acc => by
    have ht := h t (by simp)
    have hl := pTerms_read l (i + 1) (by omega) (fun x hx => h x (by simp [hx])) r hr k (acc ++ [t])
    have hg := goodT_terms l (i + 1) (r := r) (by omega) hr
    simp only [termsS]
    rw [termS_body, if_pos hi, List.length_cons, ← Nat.add_assoc]
    by_cases hn : t.1 < 0
    · rw [if_pos hn]
      show pTerms (k + l.length + 1) acc (lexW (32 :: 45 :: 32 :: (bodyS t ++ termsS (i + 1) l) ++ r)) = _
      rw [List.cons_append, List.cons_append, List.cons_append, lexW_sp, lexW_minus, List.append_assoc]
      simp only [pTerms]
      rw [if_pos (by simp), if_pos trivial, lexW_sp, pTerm_body ht hg (-1) (by omega) (fun _ => by omega)]
      dsimp only
      rw [hl, List.append_assoc]; rfl
    · rw [if_neg hn]
      show pTerms (k + l.length + 1) acc (lexW (32 :: 43 :: 32 :: (bodyS t ++ termsS (i + 1) l) ++ r)) = _
      rw [List.cons_append, List.cons_append, List.cons_append, lexW_sp, lexW_plus, List.append_assoc]
      simp only [pTerms]
      rw [if_pos (by simp), if_neg (by decide), lexW_sp, pTerm_body ht hg 1 (by omega) (fun _ => by omega)]
      dsimp only
      rw [hl, List.append_assoc]; rfl
theorem op_lex (c : Int) (r : Src) (h0 : 0 ≤ c) (h5 : c ≤ 5) : lexW (opS c ++ (32 :: r)) = (opS c, 32 :: r) ∧ opV (opS c) = c ∧ opS c ≠ [43] ∧ opS c ≠ [45] := by
  have e2 : endsB 2 (32 :: r) := fun c r' e => by injection e with e _; subst e; rfl
  have : c = 0 ∨ c = 1 ∨ c = 2 ∨ c = 3 ∨ c = 4 ∨ c = 5 := by omega
  rcases this with rfl | rfl | rfl | rfl | rfl | rfl
  · exact ⟨lexW_word (c := 60) (w := []) (by decide) rfl rfl e2, rfl, by decide, by decide⟩
  · exact ⟨lexW_word (c := 60) (w := [61]) (by decide) rfl rfl e2, rfl, by decide, by decide⟩
  · exact ⟨lexW_word (c := 61) (w := []) (by decide) rfl rfl e2, rfl, by decide, by decide⟩
  · exact ⟨lexW_word (c := 33) (w := [61]) (by decide) rfl rfl e2, rfl, by decide, by decide⟩
  · exact ⟨lexW_word (c := 62) (w := [61]) (by decide) rfl rfl e2, rfl, by decide, by decide⟩
  · exact ⟨lexW_word (c := 62) (w := []) (by decide) rfl rfl e2, rfl, by decide, by decide⟩
theorem than_read (n : Int) (h1 : -2147483648 ≤ n) (h2 : n ≤ 2147483648) {r : Src} (hr : goodT r) : ∃ m, pNum 2147483648 (pSign (lexW (Lib.itoa n ++ r))).2 = some (m, lexW r) ∧ (pSign (lexW (Lib.itoa n ++ r))).1 * m = n := by
  by_cases hn : n < 0
  · have e : Lib.itoa n = 45 :: Lib.itoa (n.natAbs : Int) := by rw [itoa_nat]; unfold Lib.itoa; rw [if_pos hn]
    rw [e, List.cons_append, lexW_minus]
    unfold pSign
    rw [if_pos rfl]
    dsimp only
    rw [lexW_itoa _ hr]
    unfold pNum
    dsimp only
    rw [numV_dec _ _ (by omega) (by omega)]
    exact ⟨_, rfl, by omega⟩
  · obtain ⟨u, rfl⟩ : ∃ u : Nat, n = u := ⟨n.toNat, by omega⟩
    rw [lexW_itoa _ hr]
    have hne : Lib.itoa (u : Int) ≠ [45] := by
      obtain ⟨c, q, e, ha⟩ := dec_digits u
      rw [List.all_cons, Bool.and_eq_true] at ha
      have hc : 48 ≤ c.toNat ∧ c.toNat ≤ 57 := by simpa [digB] using ha.1
      rw [itoa_nat, e]
      intro e; injection e with e _; subst e; revert hc; decide
    unfold pSign
    dsimp only
    rw [if_neg hne]
    unfold pNum
    dsimp only
    rw [numV_dec _ _ (by omega) (by omega)]
    exact ⟨_, rfl, by omega⟩
/-- A comparison's text. -/
def cmpS (c : Cd) : Src := termsS 0 c.terms ++ ([32] ++ opS c.cmp ++ [32]) ++ Lib.itoa c.than
theorem compare_parts {c : Cd} (h : compareE c = 0) : c.kids = [] ∧ c.terms ≠ [] ∧ 0 ≤ c.cmp ∧ c.cmp ≤ 5 ∧ -2147483648 ≤ c.than ∧ c.than ≤ 2147483648 ∧ (∀ t ∈ c.terms, TmOk t) ∧ c.terms.length ≤ 8 := by
  unfold compareE at h
  split at h
  · simp at h
  split at h
  · simp at h
  split at h
  · simp at h
  split at h
  · simp at h
  split at h
  · simp at h
  rename_i h1 h2 h3 h4 h5
  exact ⟨List.eq_nil_of_length_eq_zero (by omega), fun e => h2 (by rw [e]; rfl), by omega, by omega, by omega, by omega, terms_ok h, by omega⟩
theorem compare_read {c : Cd} (hk : c.kind = 0) (h : compareE c = 0) {r : Src} (hr : goodT r) : pCompare (lexW (cmpS c ++ r)) = some (c, lexW r) ∧ (lexW (cmpS c ++ r)).1 ≠ wNot ∧ (lexW (cmpS c ++ r)).1 ≠ [40] := by
  obtain ⟨a1, a2, a3, a4, a5, a6, a7, a8⟩ := compare_parts h
  obtain ⟨k, ts, cm, th, ks⟩ := c
  simp only [Cd.kind, Cd.terms, Cd.cmp, Cd.than, Cd.kids] at *
  subst hk a1
  cases ts with
  | nil => exact absurd rfl a2
  | cons t l =>
    have ht := a7 t (by simp)
    have hl : ∀ x ∈ l, TmOk x := fun x hx => a7 x (by simp [hx])
    obtain ⟨o1, o2, o3, o4⟩ := op_lex cm (Lib.itoa th ++ r) a3 a4
    obtain ⟨m, n1, n2⟩ := than_read th a5 a6 hr
    have htx : cmpS (.mk 0 (t :: l) cm th []) ++ r = (if t.1 < 0 then [45] else []) ++ (bodyS t ++ (termsS 1 l ++ (32 :: (opS cm ++ (32 :: (Lib.itoa th ++ r)))))) := by
      simp only [cmpS, Cd.terms, Cd.cmp, Cd.than, termsS, termS_body, List.append_assoc, List.cons_append, List.nil_append]
      rw [if_neg (by omega)]
    generalize hX : (32 :: (opS cm ++ (32 :: (Lib.itoa th ++ r))) : Src) = X at *
    have hgX : goodT X := by rw [← hX]; exact good_sp _
    have hg1 := goodT_terms l 1 (by omega) hgX
    have hlX : lexW X = (opS cm, 32 :: (Lib.itoa th ++ r)) := by rw [← hX, lexW_sp, o1]
    have hsg : pSign (lexW (cmpS (.mk 0 (t :: l) cm th []) ++ r)) = (if t.1 < 0 then -1 else 1, lexW (bodyS t ++ (termsS 1 l ++ X))) ∧ (lexW (cmpS (.mk 0 (t :: l) cm th []) ++ r)).1 ≠ wNot ∧ (lexW (cmpS (.mk 0 (t :: l) cm th []) ++ r)).1 ≠ [40] := by
      obtain ⟨b1, b2, b3⟩ := body_first ht hg1
      rw [htx]
      by_cases hn : t.1 < 0
      · rw [if_pos hn, if_pos hn, List.cons_append, List.nil_append, lexW_minus]
        exact ⟨by unfold pSign; rw [if_pos rfl], (by decide : ([45] : Src) ≠ wNot), (by decide : ([45] : Src) ≠ [40])⟩
      · rw [if_neg hn, if_neg hn, List.nil_append]
        exact ⟨by unfold pSign; rw [if_neg b1], b2, b3⟩
    refine ⟨?_, hsg.2⟩
    unfold pCompare
    rw [hsg.1]
    dsimp only
    rw [pTerm_body ht hg1 (if t.1 < 0 then -1 else 1) (by split <;> omega) (fun _ => by split <;> omega)]
    dsimp only
    have hlen : l.length + 1 ≤ (lexW (termsS 1 l ++ X)).1.length + (lexW (termsS 1 l ++ X)).2.length + 1 := by
      have : ∀ (l : List Tm) (i : Nat), 0 < i → (∀ x ∈ l, TmOk x) → l.length ≤ stLen (lexW (termsS i l ++ X)) := by
        intro l
        induction l with
        | nil => intro i _ _; simp
        | cons x l ih =>
          intro i hi hx
          have h1 := hx x (by simp)
          simp only [termsS, termS_body]
          rw [if_pos hi]
          have h3 : ∀ s : Src, stLen (lexW s) ≤ s.length := lexW_len
          have h4 := ih (i + 1) (by omega) (fun y hy => hx y (by simp [hy]))
          have h5 := lexW_len (termsS (i + 1) l ++ X)
          split
          · show _ ≤ stLen (lexW (32 :: 45 :: 32 :: (bodyS x ++ termsS (i + 1) l) ++ X))
            rw [List.cons_append, List.cons_append, List.cons_append, lexW_sp, lexW_minus]
            simp only [stLen, List.length_cons, List.length_append, List.length_nil] at h4 h5 ⊢
            omega
          · show _ ≤ stLen (lexW (32 :: 43 :: 32 :: (bodyS x ++ termsS (i + 1) l) ++ X))
            rw [List.cons_append, List.cons_append, List.cons_append, lexW_sp, lexW_plus]
            simp only [stLen, List.length_cons, List.length_append, List.length_nil] at h4 h5 ⊢
            omega
      have := this l 1 (by omega) hl
      unfold stLen at this
      omega
    obtain ⟨q, hq⟩ : ∃ q, (lexW (termsS 1 l ++ X)).1.length + (lexW (termsS 1 l ++ X)).2.length + 1 = (q + 1) + l.length := ⟨(lexW (termsS 1 l ++ X)).1.length + (lexW (termsS 1 l ++ X)).2.length - l.length, by omega⟩
    rw [hq, pTerms_read l 1 (by omega) hl X hgX (q + 1) [t], hlX]
    simp only [pTerms]
    rw [if_neg (by rintro (h | h); exact o3 h; exact o4 h)]
    dsimp only
    rw [o2, if_neg (by omega), lexW_sp, n1]
    dsimp only
    rw [n2]
    rfl
end Pr
end Go.Proofs.YtonmpealebggoaaDoor
