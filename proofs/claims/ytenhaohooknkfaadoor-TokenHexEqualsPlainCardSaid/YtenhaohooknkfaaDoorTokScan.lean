/- What Scan finds: gaps, own bytes, lines; in plain words. -/
import Derived.Test.YtenhaohooknkfaaDoorTokLaw
namespace Go.Proofs.YtenhaohooknkfaaDoor
namespace Tk
theorem scanF_step (f p : Nat) (l : Src) : scanF (f + 1) p l = match l.drop (skipN false l) with
    | [] => .ok []
    | x :: r => match one (x :: r) with
      | .error e => .error (p + skipN false l, e)
      | .ok (t, n) => match scanF f (p + skipN false l + n) ((x :: r).drop n) with
        | .error e => .error e
        | .ok ts => .ok (⟨t, p + skipN false l, p + skipN false l + n⟩ :: ts) := rfl
theorem scanF_nil {f p : Nat} {l : Src} (h : skipN false l = l.length) : scanF (f + 1) p l = .ok [] := by
  rw [scanF_step, h, List.drop_length]
/-- One step of Scan where a token stands. -/
theorem scanF_tok {f p : Nat} {l r : Src} {x : UInt8} {t : BTok} {n : Nat} {a b : Src} (h : l.drop (skipN false l) = x :: r) (ho : Own (x :: r) t n a b) :
    scanF (f + 1) p l = match scanF f (p + skipN false l + n) b with
      | .error e => .error e
      | .ok ts => .ok (⟨t, p + skipN false l, p + skipN false l + n⟩ :: ts) := by
  rw [scanF_step, h]
  dsimp only
  have h1 := ho.same b ho.stop
  rw [← ho.eq] at h1
  rw [h1]
  dsimp only
  rw [ho.eq, ho.len, List.drop_left]
theorem own_of {l : Src} {t : BTok} {n : Nat} (h : one l = .ok (t, n)) : ∃ a b, Own l t n a b := one_own h
theorem drop_len {l r : Src} {x : UInt8} {k : Nat} (h : l.drop k = x :: r) : l.length = k + (x :: r).length ∧ k < l.length := by
  have h1 := congrArg List.length h
  rw [List.length_drop] at h1
  have : (x :: r).length = r.length + 1 := rfl
  omega
/-- More steps change nothing. -/
theorem scanF_fuel : ∀ (f g p : Nat) (l : Src), l.length < f → l.length < g → scanF f p l = scanF g p l
  | 0, _, _, _, h, _ => absurd h (by omega)
  | _ + 1, 0, _, _, _, h => absurd h (by omega)
  | f + 1, g + 1, p, l, hf, hg => by
    rw [scanF_step, scanF_step]
    split
    · rfl
    · rename_i x r hd
      obtain ⟨d1, d2⟩ := drop_len hd
      split
      · rfl
      · rename_i t n ho
        obtain ⟨a, b, hw⟩ := own_of ho
        have hl := congrArg List.length hw.eq
        rw [List.length_append] at hl
        have := hw.pos
        rw [hw.eq, hw.len, List.drop_left, scanF_fuel f g _ b (by omega) (by omega)]
/-- Another place. -/
def sh (q : Nat) (t : Tok) : Tok := ⟨t.b, t.at_ + q, t.en + q⟩
theorem scanF_shift : ∀ (f p q : Nat) (l : Src), scanF f (p + q) l = match scanF f p l with
    | .error e => .error (e.1 + q, e.2)
    | .ok ts => .ok (ts.map (sh q))
  | 0, _, _, _ => rfl
  | f + 1, p, q, l => by
    rw [scanF_step, scanF_step]
    split
    · rfl
    · rename_i x r hd
      split
      · rename_i e he
        dsimp only
        rw [show p + q + skipN false l = p + skipN false l + q by omega]
      · rename_i t n ho
        rw [show p + q + skipN false l + n = (p + skipN false l + n) + q by omega, scanF_shift f _ q]
        cases scanF f (p + skipN false l + n) ((x :: r).drop n) with
        | error e => rfl
        | ok ts =>
          dsimp only
          rw [show p + q + skipN false l = p + skipN false l + q by omega, List.map_cons]; rfl
/-- Bytes that are skipped hold no token. -/
theorem scan_gap {g : Src} (h : skipN false g = g.length) (hl : g.length ≤ 8192) : scan g = .ok [] := by
  unfold scan
  rw [if_neg (by omega)]
  exact scanF_nil h
/-- A token's own bytes hold it alone. -/
theorem scan_own {l : Src} {t : BTok} {n : Nat} {x : UInt8} {r a b : Src} (h : Own (x :: r) t n a b) (hx : white x = false ∧ x ≠ 37) (hl : n ≤ 8192) : scan a = .ok [⟨t, 0, n⟩] := by
  have _ := l
  unfold scan
  rw [if_neg (by have := h.len; omega)]
  cases a with
  | nil => have := h.pos; simp at this
  | cons y a =>
    have hy : y = x := by have := h.eq; rw [List.cons_append] at this; exact (List.cons.inj this).1.symm
    subst hy
    have h0 : skipN false (y :: a) = 0 := skip_zero hx.1 hx.2
    have hw : Own (y :: a) t n (y :: a) [] := ⟨by simp, h.len, h.pos, fun _ => nr_nil, h.same⟩
    rw [scanF_tok (r := a) (x := y) (by rw [h0]; rfl) hw, h0]
    have hn := h.len
    rw [show (y :: a).length = a.length + 1 from rfl, scanF_nil rfl]
    simp
/-- What is known of the tokens that are left. -/
theorem scanF_left {f p : Nat} {l : Src} {ts : List Tok} (h : scanF f p l = .ok ts) (hl : l.length < f) :
    (ts = [] ∧ skipN false l = l.length) ∨
    ∃ (t : BTok) (n : Nat) (ts' : List Tok) (x : UInt8) (r a b : Src), ts = ⟨t, p + skipN false l, p + skipN false l + n⟩ :: ts' ∧ l = l.take (skipN false l) ++ a ++ b ∧ Own (x :: r) t n a b ∧ l.drop (skipN false l) = x :: r ∧ white x = false ∧ x ≠ 37 ∧ b.length < l.length ∧
      scanF f (p + skipN false l + n) b = .ok ts' := by
  cases f with
  | zero => omega
  | succ f =>
    have h0 := h
    rw [scanF_step] at h
    split at h
    · rename_i hd
      cases h
      refine .inl ⟨rfl, ?_⟩
      have h1 := congrArg List.length hd
      rw [List.length_drop] at h1
      have := skip_le false l
      simp at h1; omega
    · rename_i x r hd
      split at h
      · cases h
      · rename_i t n ho
        obtain ⟨a, b, hw⟩ := own_of ho
        obtain ⟨d1, d2⟩ := drop_len hd
        have hlen := congrArg List.length hw.eq
        rw [List.length_append] at hlen
        have hp := hw.pos
        have hs := scanF_tok (f := f) (p := p) hd hw
        rw [hs] at h0
        cases hb : scanF f (p + skipN false l + n) b with
        | error e => rw [hb] at h0; cases h0
        | ok ts' =>
          rw [hb] at h0
          cases h0
          obtain ⟨w1, w2⟩ := skip_head false l x r hd
          refine .inr ⟨t, n, ts', x, r, a, b, rfl, ?_, hw, hd, w1, w2, by omega, ?_⟩
          · rw [List.append_assoc, ← hw.eq, ← hd, List.take_append_drop]
          · rw [scanF_fuel (f + 1) f _ b (by omega) (by omega)]; exact hb
/-! Lines. -/
theorem drop_app (l m : Src) (k : Nat) : (l ++ m).drop (l.length + k) = m.drop k := by rw [← List.drop_drop, List.drop_left]
theorem skip_app : ∀ (b : Bool) (l m : Src) (x : UInt8) (r : Src), l.drop (skipN b l) = x :: r → skipN b (l ++ m) = skipN b l
  | b, [], m, x, r, h => by simp at h
  | true, y :: q, m, x, r, h => by
    simp only [skipN] at h
    rw [Nat.add_comm, List.drop_succ_cons] at h
    simp only [List.cons_append, skipN]
    rw [skip_app (y != 10) q m x r h]
  | false, y :: q, m, x, r, h => by
    simp only [skipN] at h
    simp only [List.cons_append, skipN]
    split at h
    · rename_i h1
      rw [Nat.add_comm, List.drop_succ_cons] at h
      rw [if_pos h1, if_pos h1, skip_app true q m x r h]
    · rename_i h1
      rw [if_neg h1, if_neg h1]
      split at h
      · rename_i h2
        rw [Nat.add_comm, List.drop_succ_cons] at h
        rw [if_pos h2, if_pos h2, skip_app false q m x r h]
      · rename_i h2
        rw [if_neg h2, if_neg h2]
theorem skip_line : ∀ (b : Bool) (l m : Src), skipN b l = l.length → skipN b (l ++ 10 :: m) = l.length + 1 + skipN false m
  | true, [], m, _ => by
    show 1 + skipN ((10 : UInt8) != 10) m = _
    rw [show ((10 : UInt8) != 10) = false from rfl]; simp
  | false, [], m, _ => by
    show skipN false (10 :: m) = _
    simp only [skipN]
    rw [if_neg (by decide), if_pos (by decide)]; simp
  | true, x :: l, m, h => by
    simp only [skipN, List.length_cons] at h
    simp only [List.cons_append, skipN, List.length_cons]
    rw [skip_line (x != 10) l m (by omega)]; omega
  | false, x :: l, m, h => by
    simp only [skipN, List.length_cons] at h
    simp only [List.cons_append, skipN, List.length_cons]
    split at h
    · rename_i h1
      rw [if_pos h1, skip_line true l m (by omega)]; omega
    · rename_i h1
      split at h
      · rename_i h2
        rw [if_neg h1, if_pos h2, skip_line false l m (by omega)]; omega
      · omega
theorem scanF_lines : ∀ (k : Nat) (l : Src) (f p : Nat) (ts : List Tok) (m : Src) (g : Nat), l.length ≤ k → l.length < f → scanF f p l = .ok ts → (l ++ 10 :: m).length < g →
    scanF g p (l ++ 10 :: m) = match scanF g (p + l.length + 1) m with
      | .error e => .error e
      | .ok us => .ok (ts ++ us)
  | k, l, f, p, ts, m, g, hk, hf, h, hg => by
    have hlg : (l ++ 10 :: m).length = l.length + 1 + m.length := by simp; omega
    obtain ⟨g', rfl⟩ : ∃ g', g = g' + 1 := ⟨g - 1, by omega⟩
    rcases scanF_left h hf with ⟨rfl, hs⟩ | ⟨t, n, ts', x, r, a, b, rfl, he, hw, hd, w1, w2, hb, h2⟩
    · rw [scanF_step, scanF_step, skip_line false l m hs]
      rw [show l.length + 1 + skipN false m = l.length + (1 + skipN false m) by omega, drop_app, show (10 :: m).drop (1 + skipN false m) = m.drop (skipN false m) by rw [Nat.add_comm, List.drop_succ_cons]]
      cases hm : m.drop (skipN false m) with
      | nil => rfl
      | cons y q =>
        dsimp only
        cases one (y :: q) with
        | error e =>
          dsimp only
          rw [show p + (l.length + (1 + skipN false m)) = p + l.length + 1 + skipN false m by omega]
        | ok tn =>
          obtain ⟨t, n⟩ := tn
          dsimp only
          rw [show p + (l.length + (1 + skipN false m)) = p + l.length + 1 + skipN false m by omega]
          cases scanF g' (p + l.length + 1 + skipN false m + n) ((y :: q).drop n) <;> rfl
    · cases k with
      | zero => obtain ⟨_, d2⟩ := drop_len hd; omega
      | succ k =>
        have hs := skip_app false l (10 :: m) x r hd
        have hda : (l ++ 10 :: m).drop (skipN false (l ++ 10 :: m)) = x :: (r ++ 10 :: m) := by
          rw [hs, List.drop_append_of_le_length (skip_le false l), hd]; rfl
        have hnr : isRun t.kind → nr (b ++ 10 :: m) := fun hk c q hc => by
          cases b with
          | nil => rw [List.nil_append] at hc; cases hc; decide
          | cons y b => rw [List.cons_append] at hc; cases hc; exact hw.stop hk _ b rfl
        have hw2 : Own (x :: (r ++ 10 :: m)) t n a (b ++ 10 :: m) := ⟨by rw [← List.append_assoc, ← hw.eq]; rfl, hw.len, hw.pos, hnr, hw.same⟩
        have hlen := congrArg List.length he
        rw [List.length_append, List.length_append, List.length_take, Nat.min_eq_left (skip_le false l)] at hlen
        have := hw.len
        have hp := hw.pos
        rw [scanF_tok hda hw2, hs, scanF_fuel g' (g' + 1) _ (b ++ 10 :: m) (by simp; simp at hg; omega) (by simp; simp at hg; omega), scanF_lines k b f (p + skipN false l + n) ts' m (g' + 1) (by omega) (by omega) h2 (by simp; simp at hg; omega)]
        rw [show p + skipN false l + n + b.length + 1 = p + l.length + 1 by omega]
        cases scanF (g' + 1) (p + l.length + 1) m <;> rfl
end Tk
end Go.Proofs.YtenhaohooknkfaaDoor
