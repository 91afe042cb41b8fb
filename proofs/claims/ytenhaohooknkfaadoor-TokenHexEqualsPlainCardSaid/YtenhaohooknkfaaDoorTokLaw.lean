/- A token is read from its own bytes alone, in plain words. -/
import Derived.Test.YtenhaohooknkfaaDoorTokPlain
namespace Go.Proofs.YtenhaohooknkfaaDoor
namespace Tk
/-- What follows is no regular byte. -/
def nr (l : Src) : Prop := ∀ c r, l = c :: r → regular c = false
theorem nr_nil : nr [] := fun c r h => by cases h
theorem nr_cons {c : UInt8} {r : Src} (h : regular c = false) : nr (c :: r) := fun d q e => by cases e; exact h
theorem skip_le : ∀ (b : Bool) (l : Src), skipN b l ≤ l.length
  | b, [] => by cases b <;> exact Nat.le_refl _
  | true, x :: r => by have := skip_le (x != 10) r; simp only [skipN, List.length_cons]; omega
  | false, x :: r => by
    simp only [skipN, List.length_cons]
    split
    · have := skip_le true r; omega
    · split
      · have := skip_le false r; omega
      · omega
theorem skip_take : ∀ (b : Bool) (l : Src), skipN b (l.take (skipN b l)) = skipN b l
  | b, [] => by cases b <;> rfl
  | true, x :: r => by
    have := skip_take (x != 10) r
    simp only [skipN]
    rw [Nat.add_comm, List.take_succ_cons]
    simp only [skipN]
    rw [this]; omega
  | false, x :: r => by
    simp only [skipN]
    split
    · rename_i h
      have := skip_take true r
      rw [Nat.add_comm, List.take_succ_cons]
      simp only [skipN]
      rw [if_pos h, this]; omega
    · rename_i h
      split
      · rename_i h2
        have := skip_take false r
        rw [Nat.add_comm, List.take_succ_cons]
        simp only [skipN]
        rw [if_neg h, if_pos h2, this]; omega
      · rfl
theorem skip_head : ∀ (b : Bool) (l : Src) (x : UInt8) (r : Src), l.drop (skipN b l) = x :: r → white x = false ∧ x ≠ 37
  | b, [], x, r, h => by simp at h
  | true, y :: q, x, r, h => by
    simp only [skipN] at h
    rw [Nat.add_comm, List.drop_succ_cons] at h
    exact skip_head (y != 10) q x r h
  | false, y :: q, x, r, h => by
    simp only [skipN] at h
    split at h
    · rw [Nat.add_comm, List.drop_succ_cons] at h
      exact skip_head true q x r h
    · rename_i h1
      split at h
      · rw [Nat.add_comm, List.drop_succ_cons] at h
        exact skip_head false q x r h
      · rename_i h2
        rw [List.drop_zero] at h
        cases h
        exact ⟨by simpa using h2, by simpa using h1⟩
theorem skip_zero {x : UInt8} {r : Src} (h : white x = false) (h2 : x ≠ 37) : skipN false (x :: r) = 0 := by
  simp only [skipN]
  rw [if_neg (by simpa using h2), if_neg (by rw [h]; decide)]
/-! Runs of regular bytes. -/
theorem run_split (l : Src) : ∃ b, l = run l ++ b ∧ nr b := by
  induction l with
  | nil => exact ⟨[], rfl, nr_nil⟩
  | cons x l ih =>
    unfold run
    rw [List.takeWhile_cons]
    split
    · obtain ⟨b, h1, h2⟩ := ih
      exact ⟨b, by unfold run at h1; rw [List.cons_append, ← h1], h2⟩
    · rename_i h
      exact ⟨x :: l, rfl, nr_cons (by simpa using h)⟩
theorem run_all (l : Src) : ∀ c ∈ run l, regular c = true := by
  induction l with
  | nil => intro c hc; cases hc
  | cons x l ih =>
    unfold run at ih ⊢
    rw [List.takeWhile_cons]
    split
    · rename_i h
      intro c hc
      rcases List.mem_cons.1 hc with rfl | hc
      · exact h
      · exact ih c hc
    · intro c hc; cases hc
theorem run_ext {a b : Src} (h : ∀ c ∈ a, regular c = true) (hb : nr b) : run (a ++ b) = a := by
  induction a with
  | nil =>
    cases b with
    | nil => rfl
    | cons c r => unfold run; rw [List.nil_append, List.takeWhile_cons, hb c r rfl]; rfl
  | cons x a ih =>
    unfold run at ih ⊢
    rw [List.cons_append, List.takeWhile_cons, h x (by simp), if_pos rfl, ih fun c hc => h c (by simp [hc])]
/-! Strings. -/
theorem pair_split {r : Src} {v : UInt8} (h : pairV r = some v) : ∃ a b q, r = a :: b :: q ∧ ∀ q', pairV (a :: b :: q') = some v := by
  match r, h with
  | a :: b :: q, h => exact ⟨a, b, q, rfl, fun q' => h⟩
theorem esc_split {r b : Src} {k : Nat} (h : esc r = .ok (b, k)) : ∃ a q, r = a ++ q ∧ k = a.length ∧ 0 < k ∧ b.length ≤ 1 ∧ ∀ q', esc (a ++ q') = .ok (b, k) := by
  cases r with
  | nil => cases h
  | cons x r =>
    by_cases h5 : x = 120
    · subst h5
      have e : ∀ r : Src, esc (120 :: r) = match pairV r with | some v => .ok ([v], 3) | none => .error 5 := fun r => rfl
      rw [e] at h
      cases hp : pairV r with
      | none => rw [hp] at h; cases h
      | some v =>
        rw [hp] at h
        cases h
        obtain ⟨a, b, q, rfl, hq⟩ := pair_split hp
        exact ⟨[120, a, b], q, rfl, rfl, by omega, by simp, fun q' => by
          show esc (120 :: (a :: b :: q')) = _
          rw [e, hq q']⟩
    · refine ⟨[x], r, rfl, ?_⟩
      have e : ∀ q : Src, esc (x :: q) = if x == 10 then .ok ([], 1) else if x == 110 then .ok ([10], 1) else if x == 116 then .ok ([9], 1) else if x == 92 || x == 40 || x == 41 then .ok ([x], 1) else .error 5 := fun q => by
        simp only [esc]
        rw [if_neg (show ¬ (x == 120) = true by simpa using h5)]
      have hk : k = 1 ∧ b.length ≤ 1 := by
        rw [e] at h
        split at h
        · cases h; exact ⟨rfl, by simp⟩
        split at h
        · cases h; exact ⟨rfl, by simp⟩
        split at h
        · cases h; exact ⟨rfl, by simp⟩
        split at h
        · cases h; exact ⟨rfl, by simp⟩
        · cases h
      refine ⟨by simp [hk.1], by omega, hk.2, fun q' => ?_⟩
      rw [e] at h
      show esc (x :: q') = _
      rw [e]; exact h
theorem limited_ok {l t : Src} {m n k : Nat} (h : limited l m n = .ok (t, k)) : t = l ∧ k = n ∧ l.length ≤ m := by
  unfold limited at h
  split at h
  · cases h
  · cases h; exact ⟨rfl, rfl, by omega⟩
theorem textF_split : ∀ (f d : Nat) (l acc : Src) (n0 : Nat) (t : Src) (n : Nat), textF f d l acc n0 = .ok (t, n) →
    ∃ a b, l = a ++ b ∧ n = n0 + a.length ∧ 0 < a.length ∧ t.length + 1 ≤ acc.length + a.length ∧ t.length ≤ 1024 ∧ ∀ b' f', a.length < f' → textF f' d (a ++ b') acc n0 = .ok (t, n)
  | 0, _, _, _, _, _, _, h => by cases h
  | f + 1, _, [], _, _, _, _, h => by cases h
  | f + 1, d, x :: r, acc, n0, t, n, h => by
    have key : ∀ {d' : Nat} {acc' : Src} {k : Nat} {a0 q : Src}, r = a0 ++ q → acc'.length ≤ acc.length + 1 + a0.length → textF f d' q acc' (n0 + 1 + a0.length) = .ok (t, n) →
        (∀ q' f', textF (f' + 1) d (x :: (a0 ++ q')) acc n0 = textF f' d' q' acc' (n0 + 1 + a0.length)) →
        ∃ a b, x :: r = a ++ b ∧ n = n0 + a.length ∧ 0 < a.length ∧ t.length + 1 ≤ acc.length + a.length ∧ t.length ≤ 1024 ∧ ∀ b' f', a.length < f' → textF f' d (a ++ b') acc n0 = .ok (t, n) := by
      intro d' acc' k a0 q hr hl hf hst
      obtain ⟨a, b, h1, h2, h3, h4, h5, h6⟩ := textF_split f d' q acc' _ t n hf
      refine ⟨x :: (a0 ++ a), b, by rw [hr, h1]; simp, by simp; omega, by simp, by simp; omega, h5, fun b' f' hf' => ?_⟩
      obtain ⟨g, rfl⟩ : ∃ g, f' = g + 1 := ⟨f' - 1, by simp at hf'; omega⟩
      rw [List.cons_append, List.append_assoc, hst, h6 b' g (by simp at hf'; omega)]
    simp only [textF] at h
    split at h
    · rename_i hx
      cases he : esc r with
      | error e => rw [he] at h; cases h
      | ok p =>
        obtain ⟨b0, k⟩ := p
        rw [he] at h
        dsimp only at h
        obtain ⟨a0, q, hr, hk, _, hb, hq⟩ := esc_split he
        subst hk
        rw [hr, List.drop_left] at h
        refine key (k := 0) hr (by simp; omega) h fun q' f' => ?_
        simp only [textF]
        rw [if_pos hx, hq q']
        dsimp only
        rw [List.drop_left]
    · rename_i hx
      split at h
      · rename_i h2
        split at h
        · cases h
        · rename_i h3
          refine key (k := 0) (a0 := []) rfl (by simp) h fun q' f' => ?_
          simp only [textF, List.nil_append]
          rw [if_neg hx, if_pos h2, if_neg h3]; rfl
      · rename_i h2
        split at h
        · rename_i h3
          split at h
          · rename_i h4
            obtain ⟨e1, e2, e3⟩ := limited_ok h
            subst e1; subst e2
            refine ⟨[x], r, rfl, by simp, by simp, by simp, e3, fun b' f' hf' => ?_⟩
            obtain ⟨g, rfl⟩ : ∃ g, f' = g + 1 := ⟨f' - 1, by simp at hf'; omega⟩
            show textF (g + 1) d (x :: b') t n0 = _
            simp only [textF]
            rw [if_neg hx, if_neg h2, if_pos h3, if_pos h4]; exact h
          · rename_i h4
            refine key (k := 0) (a0 := []) rfl (by simp) h fun q' f' => ?_
            simp only [textF, List.nil_append]
            rw [if_neg hx, if_neg h2, if_pos h3, if_neg h4]; rfl
        · rename_i h3
          refine key (k := 0) (a0 := []) rfl (by simp) h fun q' f' => ?_
          simp only [textF, List.nil_append]
          rw [if_neg hx, if_neg h2, if_neg h3]; rfl
theorem text_split {l t : Src} {n : Nat} (h : text l = .ok (t, n)) : ∃ a b, l = a ++ b ∧ n = a.length ∧ t.length + 1 ≤ n ∧ t.length ≤ 1024 ∧ ∀ b', text (a ++ b') = .ok (t, n) := by
  obtain ⟨a, b, h1, h2, h3, h4, h5, h6⟩ := textF_split _ _ _ _ _ _ _ h
  refine ⟨a, b, h1, by omega, by simp at h4; omega, h5, fun b' => ?_⟩
  exact h6 b' _ (by simp; omega)
theorem hexL_split : ∀ (l : Src) (hf : UInt8) (odd : Bool) (acc : Src) (n0 : Nat) (t : Src) (n : Nat), hexL hf odd l acc n0 = .ok (t, n) →
    ∃ a b, l = a ++ b ∧ n = n0 + a.length ∧ 0 < a.length ∧ 2 * t.length + 1 ≤ 2 * acc.length + a.length + (if odd then 1 else 0) ∧ t.length ≤ 1024 ∧ ∀ b', hexL hf odd (a ++ b') acc n0 = .ok (t, n)
  | [], _, _, _, _, _, _, h => by cases h
  | x :: r, hf, odd, acc, n0, t, n, h => by
    have key : ∀ {hf' : UInt8} {odd' : Bool} {acc' : Src}, 2 * acc'.length + (if odd' then 1 else 0) ≤ 2 * acc.length + 1 + (if odd then 1 else 0) → hexL hf' odd' r acc' (n0 + 1) = .ok (t, n) →
        (∀ q', hexL hf odd (x :: q') acc n0 = hexL hf' odd' q' acc' (n0 + 1)) →
        ∃ a b, x :: r = a ++ b ∧ n = n0 + a.length ∧ 0 < a.length ∧ 2 * t.length + 1 ≤ 2 * acc.length + a.length + (if odd then 1 else 0) ∧ t.length ≤ 1024 ∧ ∀ b', hexL hf odd (a ++ b') acc n0 = .ok (t, n) := by
      intro hf' odd' acc' hl h2 hst
      obtain ⟨a, b, h1, h3, h4, h5, h6, h7⟩ := hexL_split r hf' odd' acc' _ t n h2
      refine ⟨x :: a, b, by rw [h1]; rfl, by simp; omega, by simp, by simp; omega, h6, fun b' => ?_⟩
      rw [List.cons_append, hst, h7]
    simp only [hexL] at h
    split at h
    · rename_i h1
      refine key (by omega) h fun q' => ?_
      simp only [hexL]; rw [if_pos h1]
    · rename_i h1
      split at h
      · rename_i h2
        obtain ⟨e1, e2, e3⟩ := limited_ok h
        subst e1; subst e2
        refine ⟨[x], r, rfl, by simp, by simp, by simp, e3, fun b' => ?_⟩
        show hexL hf odd (x :: b') t n0 = _
        simp only [hexL]
        rw [if_neg h1, if_pos h2]; exact h
      · rename_i h2
        split at h
        · cases h
        · rename_i v hv
          split at h
          · rename_i ho
            refine key (by simp [ho]; omega) h fun q' => ?_
            simp only [hexL]
            rw [if_neg h1, if_neg h2, hv]
            dsimp only
            rw [if_pos ho]
          · rename_i ho
            refine key (by simp [ho]) h fun q' => ?_
            simp only [hexL]
            rw [if_neg h1, if_neg h2, hv]
            dsimp only
            rw [if_neg ho]
theorem hex_split {l t : Src} {n : Nat} (h : hex l = .ok (t, n)) : ∃ a b, l = a ++ b ∧ n = a.length ∧ 0 < n ∧ 2 * t.length + 1 ≤ n ∧ t.length ≤ 1024 ∧ ∀ b', hex (a ++ b') = .ok (t, n) := by
  obtain ⟨a, b, h1, h2, h3, h4, h5, h6⟩ := hexL_split _ _ _ _ _ _ _ h
  refine ⟨a, b, h1, by omega, by omega, by simp at h4; omega, h5, fun b' => h6 b'⟩
/-! One token. -/
def isRun (k : Int) : Prop := k = 1 ∨ k = 2 ∨ k = 4 ∨ k = 5
theorem mapInt_ok {k : Int} {n m : Nat} {e : Except Int Int} {t : BTok} (h : mapInt k n e = .ok (t, m)) : m = n ∧ t.kind = k ∧ e = .ok t.int ∧ t.text = [] := by
  cases e with
  | error e => cases h
  | ok v => cases h; exact ⟨rfl, rfl, rfl, rfl⟩
theorem mapTxt_ok {k : Int} {n m : Nat} {e : Except Int Src} {t : BTok} (h : mapTxt k n e = .ok (t, m)) : m = n ∧ t.kind = k ∧ e = .ok t.text ∧ t.int = 0 := by
  cases e with
  | error e => cases h
  | ok v => cases h; exact ⟨rfl, rfl, rfl, rfl⟩
theorem mapRes_ok {k : Int} {m : Nat} {e : Res Src} {t : BTok} (h : mapRes k e = .ok (t, m)) : ∃ n, m = n + 1 ∧ t.kind = k ∧ e = .ok (t.text, n) ∧ t.int = 0 := by
  cases e with
  | error e => cases h
  | ok v => obtain ⟨v, n⟩ := v; cases h; exact ⟨n, rfl, rfl, rfl, rfl⟩
def signB (x : UInt8) : Bool := x == 43 || x == 45 || digit x
theorem one_cons (x : UInt8) (r : Src) : one (x :: r) =
    if signB x then mapInt 1 (run (x :: r)).length (integer (run (x :: r)))
    else if regular x then mapTxt 5 (run (x :: r)).length (word (run (x :: r)))
    else if x == 47 then mapTxt 2 (1 + (run r).length) (nameW (run r))
    else if x == 64 then mapInt 4 (1 + (run r).length) (reference (run r))
    else if x == 40 then mapRes 3 (text r)
    else if x == 91 then .ok (⟨6, 0, []⟩, 1)
    else if x == 93 then .ok (⟨7, 0, []⟩, 1)
    else if x == 60 then (if r.head? = some 60 then .ok (⟨8, 0, []⟩, 2) else mapRes 3 (hex r))
    else if x == 62 then (if r.head? = some 62 then .ok (⟨9, 0, []⟩, 2) else .error 5)
    else .error 5 := rfl
/-- What a token's own bytes are, and that it is read from them alone. -/
structure Own (l : Src) (t : BTok) (n : Nat) (a b : Src) : Prop where
  eq : l = a ++ b
  len : n = a.length
  pos : 0 < a.length
  stop : isRun t.kind → nr b
  same : ∀ b', (isRun t.kind → nr b') → one (a ++ b') = .ok (t, n)
theorem run_cons {x : UInt8} {r : Src} (h : regular x = true) : run (x :: r) = x :: run r := by
  unfold run; rw [List.takeWhile_cons, h]; rfl
theorem u8_all (p : UInt8 → Bool) (h : ∀ n : Fin 256, p (UInt8.ofFin n) = true) (x : UInt8) : p x = true := by
  have := h x.toFin
  rwa [UInt8.ofFin_toFin] at this
theorem signB_regular {x : UInt8} (h : signB x = true) : regular x = true := by
  have := u8_all (fun x => !signB x || regular x) (by decide +kernel) x
  rw [h] at this; simpa using this
theorem one_own {l : Src} {t : BTok} {n : Nat} (h : one l = .ok (t, n)) : ∃ a b, Own l t n a b := by
  cases l with
  | nil => cases h
  | cons x r =>
    have keyr : ∀ (k : Int) (hk : isRun k), regular x = true → n = (run (x :: r)).length → t.kind = k →
        (∀ q : Src, regular x = true → run (x :: q) = run (x :: r) → one (x :: q) = one (x :: r)) → ∃ a b, Own (x :: r) t n a b := by
      intro k hk hx hn ht hst
      obtain ⟨b, hb1, hb2⟩ := run_split r
      refine ⟨x :: run r, b, by rw [List.cons_append, ← hb1], by rw [hn, run_cons hx], by simp, fun _ => hb2, fun b' hb' => ?_⟩
      rw [List.cons_append, hst _ hx ?_, h]
      rw [run_cons hx, run_cons hx, run_ext (run_all r) (hb' (ht ▸ hk))]
    have keyd : ∀ (k : Int) (hk : isRun k), n = 1 + (run r).length → t.kind = k →
        (∀ q : Src, run q = run r → one (x :: q) = one (x :: r)) → ∃ a b, Own (x :: r) t n a b := by
      intro k hk hn ht hst
      obtain ⟨b, hb1, hb2⟩ := run_split r
      refine ⟨x :: run r, b, by rw [List.cons_append, ← hb1], by simp; omega, by simp, fun _ => hb2, fun b' hb' => ?_⟩
      rw [List.cons_append, hst _ (run_ext (run_all r) (hb' (ht ▸ hk))), h]
    have h0 := h
    rw [one_cons] at h
    split at h
    · rename_i h1
      obtain ⟨e1, e2, _, _⟩ := mapInt_ok h
      exact keyr 1 (.inl rfl) (signB_regular h1) e1 e2 fun q hx hq => by rw [one_cons, one_cons, if_pos h1, if_pos h1, hq]
    split at h
    · rename_i h1 h2
      obtain ⟨e1, e2, _, _⟩ := mapTxt_ok h
      exact keyr 5 (.inr (.inr (.inr rfl))) h2 e1 e2 fun q hx hq => by rw [one_cons, one_cons, if_neg h1, if_pos h2, if_neg h1, if_pos h2, hq]
    split at h
    · rename_i h1 h2 h3
      obtain ⟨e1, e2, _, _⟩ := mapTxt_ok h
      exact keyd 2 (.inr (.inl rfl)) e1 e2 fun q hq => by rw [one_cons, one_cons, if_neg h1, if_neg h2, if_pos h3, if_neg h1, if_neg h2, if_pos h3, hq]
    split at h
    · rename_i h1 h2 h3 h4
      obtain ⟨e1, e2, _, _⟩ := mapInt_ok h
      exact keyd 4 (.inr (.inr (.inl rfl))) e1 e2 fun q hq => by rw [one_cons, one_cons, if_neg h1, if_neg h2, if_neg h3, if_pos h4, if_neg h1, if_neg h2, if_neg h3, if_pos h4, hq]
    split at h
    · rename_i h1 h2 h3 h4 h5
      obtain ⟨m, e1, e2, e3, e4⟩ := mapRes_ok h
      obtain ⟨a, b, f1, f2, f3, f4, f5⟩ := text_split e3
      refine ⟨x :: a, b, by rw [f1]; rfl, by simp; omega, by simp, fun hk => absurd hk (by rw [e2]; unfold isRun; omega), fun b' _ => ?_⟩
      rw [List.cons_append, one_cons, if_neg h1, if_neg h2, if_neg h3, if_neg h4, if_pos h5, f5, ← e3]; exact h
    split at h
    · rename_i h1 h2 h3 h4 h5 h6
      cases h
      refine ⟨[x], r, rfl, rfl, by simp, fun hk => absurd hk (by unfold isRun; decide), fun b' _ => ?_⟩
      show one (x :: b') = _
      rw [one_cons, if_neg h1, if_neg h2, if_neg h3, if_neg h4, if_neg h5, if_pos h6]
    split at h
    · rename_i h1 h2 h3 h4 h5 h6 h7
      cases h
      refine ⟨[x], r, rfl, rfl, by simp, fun hk => absurd hk (by unfold isRun; decide), fun b' _ => ?_⟩
      show one (x :: b') = _
      rw [one_cons, if_neg h1, if_neg h2, if_neg h3, if_neg h4, if_neg h5, if_neg h6, if_pos h7]
    split at h
    · rename_i h1 h2 h3 h4 h5 h6 h7 h8
      split at h
      · rename_i h9
        cases h
        cases r with
        | nil => cases h9
        | cons y r =>
          have hy : y = 60 := by simpa using h9
          subst hy
          refine ⟨[x, 60], r, rfl, rfl, by simp, fun hk => absurd hk (by unfold isRun; decide), fun b' _ => ?_⟩
          show one (x :: 60 :: b') = _
          rw [one_cons, if_neg h1, if_neg h2, if_neg h3, if_neg h4, if_neg h5, if_neg h6, if_neg h7, if_pos h8]
          exact if_pos rfl
      · rename_i h9
        obtain ⟨m, e1, e2, e3, e4⟩ := mapRes_ok h
        obtain ⟨a, b, f1, f2, f0, f3, f4, f5⟩ := hex_split e3
        refine ⟨x :: a, b, by rw [f1]; rfl, by simp; omega, by simp, fun hk => absurd hk (by rw [e2]; unfold isRun; omega), fun b' _ => ?_⟩
        rw [List.cons_append, one_cons, if_neg h1, if_neg h2, if_neg h3, if_neg h4, if_neg h5, if_neg h6, if_neg h7, if_pos h8, if_neg, f5, ← e3]
        · exact h
        · intro hh
          cases a with
          | nil => simp at f2; omega
          | cons y a => exact h9 (by rw [f1]; simpa using hh)
    split at h
    · rename_i h1 h2 h3 h4 h5 h6 h7 h8 h9
      split at h
      · rename_i h10
        cases h
        cases r with
        | nil => cases h10
        | cons y r =>
          have hy : y = 62 := by simpa using h10
          subst hy
          refine ⟨[x, 62], r, rfl, rfl, by simp, fun hk => absurd hk (by unfold isRun; decide), fun b' _ => ?_⟩
          show one (x :: 62 :: b') = _
          rw [one_cons, if_neg h1, if_neg h2, if_neg h3, if_neg h4, if_neg h5, if_neg h6, if_neg h7, if_neg h8, if_pos h9]
          exact if_pos rfl
      · cases h
    · cases h
end Tk
end Go.Proofs.YtenhaohooknkfaaDoor
