/- The tokens of the page language, in plain words. A token is read from its own bytes alone, in plain words. What Scan finds: gaps, own bytes, lines; in plain words. What Print writes of a token is read as it again, in plain words. Joined tokens are read as they were, and without a separator as fewer; in plain words. What is read can be printed, and is not much longer then; in plain words. The objects of the page language, in plain words. -/
import Derived.Lib.ItoaNum
namespace Go.Proofs.YthbdhijkdldmoaaGreatDoor
namespace Tk
abbrev Src := List UInt8
abbrev Res (α : Type) := Except Int (α × Nat)
def white (c : UInt8) : Bool := c == 32 || c == 9 || c == 10
def delim (c : UInt8) : Bool := [40, 41, 60, 62, 91, 93, 47, 64, 37].contains c
def regular (c : UInt8) : Bool := !white c && !delim c
def digit (c : UInt8) : Bool := decide (48 ≤ c) && decide (c ≤ 57)
def letter (c : UInt8) : Bool := (decide (97 ≤ c) && decide (c ≤ 122)) || (decide (65 ≤ c) && decide (c ≤ 90))
def hexV (c : UInt8) : Option UInt8 :=
  if digit c then some (c - 48) else if decide (97 ≤ c) && decide (c ≤ 102) then some (c - 97 + 10) else if decide (65 ≤ c) && decide (c ≤ 70) then some (c - 65 + 10) else none
/-- How many bytes are white space and comments. -/
def skipN : Bool → Src → Nat
  | _, [] => 0
  | true, x :: r => 1 + skipN (x != 10) r
  | false, x :: r => if x == 37 then 1 + skipN true r else if white x then 1 + skipN false r else 0
def run (l : Src) : Src := l.takeWhile regular
/-- Two hexadecimal digits. -/
def pairV : Src → Option UInt8
  | a :: b :: _ => match hexV a, hexV b with
    | some x, some y => some (x <<< 4 ||| y)
    | _, _ => none
  | _ => none
/-- What stands behind a backslash: the byte it means, if any, and how many bytes are read. -/
def esc : Src → Res Src
  | [] => .error 12
  | x :: r => if x == 10 then .ok ([], 1) else if x == 110 then .ok ([10], 1) else if x == 116 then .ok ([9], 1)
    else if x == 92 || x == 40 || x == 41 then .ok ([x], 1)
    else if x == 120 then (match pairV r with | some v => .ok ([v], 3) | none => .error 5) else .error 5
def limited (l : Src) (most n : Nat) : Res Src := if most < l.length then .error 2 else .ok (l, n)
/-- A string behind its opening parenthesis: fuel, depth, what is left, what was read, how many bytes. -/
def textF : Nat → Nat → Src → Src → Nat → Res Src
  | 0, _, _, _, _ => .error 12
  | _ + 1, _, [], _, _ => .error 12
  | f + 1, d, x :: r, acc, n =>
    if x == 92 then (match esc r with
      | .error e => .error e
      | .ok (b, k) => textF f d (r.drop k) (acc ++ b) (n + 1 + k))
    else if x == 40 then (if 16 < d + 1 then .error 15 else textF f (d + 1) r (acc ++ [x]) (n + 1))
    else if x == 41 then (if d = 1 then limited acc 1024 (n + 1) else textF f (d - 1) r (acc ++ [x]) (n + 1))
    else textF f d r (acc ++ [x]) (n + 1)
def text (l : Src) : Res Src := textF (l.length + 1) 1 l [] 0
/-- A hexadecimal string behind its opening bracket: half a byte, whether there is one, what is left, what was read, how many bytes. -/
def hexL : UInt8 → Bool → Src → Src → Nat → Res Src
  | _, _, [], _, _ => .error 12
  | h, odd, x :: r, acc, n =>
    if white x then hexL h odd r acc (n + 1)
    else if x == 62 && !odd then limited acc 1024 (n + 1)
    else match hexV x with
      | none => .error 5
      | some v => if odd then hexL v false r (acc ++ [h <<< 4 ||| v]) (n + 1) else hexL v true r acc (n + 1)
def hex (l : Src) : Res Src := hexL 0 false l [] 0
def nameF : Nat → Src → Src → Except Int Src
  | 0, _, _ => .error 5
  | _ + 1, [], acc => .ok acc
  | f + 1, x :: r, acc =>
    if x == 35 then (match pairV r with
      | none => .error 5
      | some v => if v == 0 then .error 5 else nameF f (r.drop 2) (acc ++ [v]))
    else if decide (x < 33) || decide (126 < x) then .error 5 else nameF f r (acc ++ [x])
def nameW (w : Src) : Except Int Src :=
  match nameF (w.length + 1) w [] with
  | .error e => .error e
  | .ok acc => if acc.length = 0 then .error 5 else if 31 < acc.length then .error 2 else .ok acc
def natV (d : Src) : Nat := d.foldl (fun n c => n * 10 + (c.toNat - 48)) 0
def signed (w : Src) : Bool := match w with | x :: _ => x == 43 || x == 45 | [] => false
def digs (w : Src) : Src := if signed w then w.drop 1 else w
def intV (w : Src) : Int := match w with | x :: r => if x == 45 then -(natV r : Int) else if x == 43 then (natV r : Int) else (natV w : Int) | [] => 0
def integer (w : Src) : Except Int Int :=
  if (digs w).length = 0 ∨ 10 < (digs w).length ∨ (digs w).all digit = false then .error 5
  else if intV w < -2147483647 ∨ 2147483647 < intV w then .error 3 else .ok (intV w)
def reference (w : Src) : Except Int Int :=
  if w.length = 0 ∨ 3 < w.length ∨ (w.head? = some 48 ∧ 1 < w.length) ∨ w.all digit = false then .error 5
  else if (natV w : Int) < 1 ∨ 255 < (natV w : Int) then .error 3 else .ok (natV w)
def wordC (first : Bool) (x : UInt8) : Bool := letter x || (!first && digit x) || x == 42 || x == 95 || x == 46
def word (w : Src) : Except Int Src :=
  match w with
  | [] => .error 5
  | x :: r => if wordC true x && r.all (wordC false) then (if 31 < w.length then .error 2 else .ok w) else .error 5
structure BTok where
  kind : Int
  int : Int
  text : Src
  deriving DecidableEq, Inhabited
def mapInt (k : Int) (n : Nat) : Except Int Int → Res BTok
  | .error e => .error e
  | .ok v => .ok (⟨k, v, []⟩, n)
def mapTxt (k : Int) (n : Nat) : Except Int Src → Res BTok
  | .error e => .error e
  | .ok v => .ok (⟨k, 0, v⟩, n)
def mapRes (k : Int) : Res Src → Res BTok
  | .error e => .error e
  | .ok (v, n) => .ok (⟨k, 0, v⟩, n + 1)
/-- The token at the head, and how many bytes it takes. -/
def one : Src → Res BTok
  | [] => .error 5
  | x :: r =>
    if x == 43 || x == 45 || digit x then mapInt 1 (run (x :: r)).length (integer (run (x :: r)))
    else if regular x then mapTxt 5 (run (x :: r)).length (word (run (x :: r)))
    else if x == 47 then mapTxt 2 (1 + (run r).length) (nameW (run r))
    else if x == 64 then mapInt 4 (1 + (run r).length) (reference (run r))
    else if x == 40 then mapRes 3 (text r)
    else if x == 91 then .ok (⟨6, 0, []⟩, 1)
    else if x == 93 then .ok (⟨7, 0, []⟩, 1)
    else if x == 60 then (if r.head? = some 60 then .ok (⟨8, 0, []⟩, 2) else mapRes 3 (hex r))
    else if x == 62 then (if r.head? = some 62 then .ok (⟨9, 0, []⟩, 2) else .error 5)
    else .error 5
structure Tok where
  b : BTok
  at_ : Nat
  en : Nat
  deriving DecidableEq, Inhabited
/-- The tokens of what is left, its first byte at p; or the place and the code of the first error. -/
def scanF : Nat → Nat → Src → Except (Nat × Int) (List Tok)
  | 0, p, _ => .error (p, 0)
  | f + 1, p, l =>
    match l.drop (skipN false l) with
    | [] => .ok []
    | x :: r => match one (x :: r) with
      | .error e => .error (p + skipN false l, e)
      | .ok (t, n) => match scanF f (p + skipN false l + n) ((x :: r).drop n) with
        | .error e => .error e
        | .ok ts => .ok (⟨t, p + skipN false l, p + skipN false l + n⟩ :: ts)
def scan (s : Src) : Except (Nat × Int) (List Tok) := if 8192 < s.length then .error (0, 2) else scanF (s.length + 1) 0 s
/-! Printed tokens. -/
def hexC (v : UInt8) : UInt8 := if v < 10 then v + 48 else v - 10 + 97
def plainName (x : UInt8) : Bool := letter x || digit x || x == 95 || x == 45 || x == 46
def prName (t : Src) : Src := t.flatMap fun x => if plainName x then [x] else [35, hexC (x >>> 4), hexC (x &&& 15)]
def prByte (x : UInt8) : Src :=
  if x == 10 then [92, 110] else if x == 9 then [92, 116] else if x == 40 || x == 41 || x == 92 then [92, x]
  else if decide (x < 32) || decide (125 < x) then [92, 120, hexC (x >>> 4), hexC (x &&& 15)] else [x]
def prText (t : Src) : Src := [40] ++ t.flatMap prByte ++ [41]
end Tk
end Go.Proofs.YthbdhijkdldmoaaGreatDoor
namespace Go.Proofs.YthbdhijkdldmoaaGreatDoor
namespace Tk
/-- What follows is no regular byte. -/
def nr (l : Src) : Prop := ∀ c r, l = c :: r → regular c = false
theorem nr_nil : nr [] := fun c r h => by cases h
theorem nr_cons {c : UInt8} {r : Src} (h : regular c = false) : nr (c :: r) := fun d q e => by cases e; exact h
theorem skip_le : ∀ (b : Bool) (l : Src), skipN b l ≤ l.length
  | b, [] => by cases b <;> exact Nat.le_refl _
  | true, x :: r => by have := skip_le (x != 10) r; simp only [skipN, List.length_cons]; omega
  | false, x :: r => by
    simp only [skipN, List.length_cons]
    split
    · have := skip_le true r; omega
    · split
      · have := skip_le false r; omega
      · omega
theorem skip_take : ∀ (b : Bool) (l : Src), skipN b (l.take (skipN b l)) = skipN b l
  | b, [] => by cases b <;> rfl
  | true, x :: r => by
    have := skip_take (x != 10) r
    simp only [skipN]
    rw [Nat.add_comm, List.take_succ_cons]
    simp only [skipN]
    rw [this]; omega
  | false, x :: r => by
    simp only [skipN]
    split
    · rename_i h
      have := skip_take true r
      rw [Nat.add_comm, List.take_succ_cons]
      simp only [skipN]
      rw [if_pos h, this]; omega
    · rename_i h
      split
      · rename_i h2
        have := skip_take false r
        rw [Nat.add_comm, List.take_succ_cons]
        simp only [skipN]
        rw [if_neg h, if_pos h2, this]; omega
      · rfl
theorem skip_head : ∀ (b : Bool) (l : Src) (x : UInt8) (r : Src), l.drop (skipN b l) = x :: r → white x = false ∧ x ≠ 37
  | b, [], x, r, h => by simp at h
  | true, y :: q, x, r, h => by
    simp only [skipN] at h
    rw [Nat.add_comm, List.drop_succ_cons] at h
    exact skip_head (y != 10) q x r h
  | false, y :: q, x, r, h => by
    simp only [skipN] at h
    split at h
    · rw [Nat.add_comm, List.drop_succ_cons] at h
      exact skip_head true q x r h
    · rename_i h1
      split at h
      · rw [Nat.add_comm, List.drop_succ_cons] at h
        exact skip_head false q x r h
      · rename_i h2
        rw [List.drop_zero] at h
        cases h
        exact ⟨by simpa using h2, by simpa using h1⟩
theorem skip_zero {x : UInt8} {r : Src} (h : white x = false) (h2 : x ≠ 37) : skipN false (x :: r) = 0 := by
  simp only [skipN]
  rw [if_neg (by simpa using h2), if_neg (by rw [h]; decide)]
/-! Runs of regular bytes. -/
theorem run_split (l : Src) : ∃ b, l = run l ++ b ∧ nr b := by
  induction l with
  | nil => exact ⟨[], rfl, nr_nil⟩
  | cons x l ih =>
    unfold run
    rw [List.takeWhile_cons]
    split
    · obtain ⟨b, h1, h2⟩ := ih
      exact ⟨b, by unfold run at h1; rw [List.cons_append, ← h1], h2⟩
    · rename_i h
      exact ⟨x :: l, rfl, nr_cons (by simpa using h)⟩
theorem run_all (l : Src) : ∀ c ∈ run l, regular c = true := by
  induction l with
  | nil => intro c hc; cases hc
  | cons x l ih =>
    unfold run at ih ⊢
    rw [List.takeWhile_cons]
    split
    · rename_i h
      intro c hc
      rcases List.mem_cons.1 hc with rfl | hc
      · exact h
      · exact ih c hc
    · intro c hc; cases hc
theorem run_ext {a b : Src} (h : ∀ c ∈ a, regular c = true) (hb : nr b) : run (a ++ b) = a := by
  induction a with
  | nil =>
    cases b with
    | nil => rfl
    | cons c r => unfold run; rw [List.nil_append, List.takeWhile_cons, hb c r rfl]; rfl
  | cons x a ih =>
    unfold run at ih ⊢
    rw [List.cons_append, List.takeWhile_cons, h x (by simp), if_pos rfl, ih fun c hc => h c (by simp [hc])]
/-! Strings. -/
theorem pair_split {r : Src} {v : UInt8} (h : pairV r = some v) : ∃ a b q, r = a :: b :: q ∧ ∀ q', pairV (a :: b :: q') = some v := by
  match r, h with
  | a :: b :: q, h => exact ⟨a, b, q, rfl, fun q' => h⟩
theorem esc_split {r b : Src} {k : Nat} (h : esc r = .ok (b, k)) : ∃ a q, r = a ++ q ∧ k = a.length ∧ 0 < k ∧ b.length ≤ 1 ∧ ∀ q', esc (a ++ q') = .ok (b, k) := by
  cases r with
  | nil => cases h
  | cons x r =>
    by_cases h5 : x = 120
    · subst h5
      have e : ∀ r : Src, esc (120 :: r) = match pairV r with | some v => .ok ([v], 3) | none => .error 5 := fun r => rfl
      rw [e] at h
      cases hp : pairV r with
      | none => rw [hp] at h; cases h
      | some v =>
        rw [hp] at h
        cases h
        obtain ⟨a, b, q, rfl, hq⟩ := pair_split hp
        exact ⟨[120, a, b], q, rfl, rfl, by omega, by simp, fun q' => by
          show esc (120 :: (a :: b :: q')) = _
          rw [e, hq q']⟩
    · refine ⟨[x], r, rfl, ?_⟩
      have e : ∀ q : Src, esc (x :: q) = if x == 10 then .ok ([], 1) else if x == 110 then .ok ([10], 1) else if x == 116 then .ok ([9], 1) else if x == 92 || x == 40 || x == 41 then .ok ([x], 1) else .error 5 := fun q => by
        simp only [esc]
        rw [if_neg (show ¬ (x == 120) = true by simpa using h5)]
      have hk : k = 1 ∧ b.length ≤ 1 := by
        rw [e] at h
        split at h
        · cases h; exact ⟨rfl, by simp⟩
        split at h
        · cases h; exact ⟨rfl, by simp⟩
        split at h
        · cases h; exact ⟨rfl, by simp⟩
        split at h
        · cases h; exact ⟨rfl, by simp⟩
        · cases h
      refine ⟨by simp [hk.1], by omega, hk.2, fun q' => ?_⟩
      rw [e] at h
      show esc (x :: q') = _
      rw [e]; exact h
theorem limited_ok {l t : Src} {m n k : Nat} (h : limited l m n = .ok (t, k)) : t = l ∧ k = n ∧ l.length ≤ m := by
  unfold limited at h
  split at h
  · cases h
  · cases h; exact ⟨rfl, rfl, by omega⟩
theorem textF_split : ∀ (f d : Nat) (l acc : Src) (n0 : Nat) (t : Src) (n : Nat), textF f d l acc n0 = .ok (t, n) →
    ∃ a b, l = a ++ b ∧ n = n0 + a.length ∧ 0 < a.length ∧ t.length + 1 ≤ acc.length + a.length ∧ t.length ≤ 1024 ∧ ∀ b' f', a.length < f' → textF f' d (a ++ b') acc n0 = .ok (t, n)
  | 0, _, _, _, _, _, _, h => by cases h
  | f + 1, _, [], _, _, _, _, h => by cases h
  | f + 1, d, x :: r, acc, n0, t, n, h => by
    have key : ∀ {d' : Nat} {acc' : Src} {k : Nat} {a0 q : Src}, r = a0 ++ q → acc'.length ≤ acc.length + 1 + a0.length → textF f d' q acc' (n0 + 1 + a0.length) = .ok (t, n) →
        (∀ q' f', textF (f' + 1) d (x :: (a0 ++ q')) acc n0 = textF f' d' q' acc' (n0 + 1 + a0.length)) →
        ∃ a b, x :: r = a ++ b ∧ n = n0 + a.length ∧ 0 < a.length ∧ t.length + 1 ≤ acc.length + a.length ∧ t.length ≤ 1024 ∧ ∀ b' f', a.length < f' → textF f' d (a ++ b') acc n0 = .ok (t, n) := by
      intro d' acc' k a0 q hr hl hf hst
      obtain ⟨a, b, h1, h2, h3, h4, h5, h6⟩ := textF_split f d' q acc' _ t n hf
      refine ⟨x :: (a0 ++ a), b, by rw [hr, h1]; simp, by simp; omega, by simp, by simp; omega, h5, fun b' f' hf' => ?_⟩
      obtain ⟨g, rfl⟩ : ∃ g, f' = g + 1 := ⟨f' - 1, by simp at hf'; omega⟩
      rw [List.cons_append, List.append_assoc, hst, h6 b' g (by simp at hf'; omega)]
    simp only [textF] at h
    split at h
    · rename_i hx
      cases he : esc r with
      | error e => rw [he] at h; cases h
      | ok p =>
        obtain ⟨b0, k⟩ := p
        rw [he] at h
        dsimp only at h
        obtain ⟨a0, q, hr, hk, _, hb, hq⟩ := esc_split he
        subst hk
        rw [hr, List.drop_left] at h
        refine key (k := 0) hr (by simp; omega) h fun q' f' => ?_
        simp only [textF]
        rw [if_pos hx, hq q']
        dsimp only
        rw [List.drop_left]
    · rename_i hx
      split at h
      · rename_i h2
        split at h
        · cases h
        · rename_i h3
          refine key (k := 0) (a0 := []) rfl (by simp) h fun q' f' => ?_
          simp only [textF, List.nil_append]
          rw [if_neg hx, if_pos h2, if_neg h3]; rfl
      · rename_i h2
        split at h
        · rename_i h3
          split at h
          · rename_i h4
            obtain ⟨e1, e2, e3⟩ := limited_ok h
            subst e1; subst e2
            refine ⟨[x], r, rfl, by simp, by simp, by simp, e3, fun b' f' hf' => ?_⟩
            obtain ⟨g, rfl⟩ : ∃ g, f' = g + 1 := ⟨f' - 1, by simp at hf'; omega⟩
            show textF (g + 1) d (x :: b') t n0 = _
            simp only [textF]
            rw [if_neg hx, if_neg h2, if_pos h3, if_pos h4]; exact h
          · rename_i h4
            refine key (k := 0) (a0 := []) rfl (by simp) h fun q' f' => ?_
            simp only [textF, List.nil_append]
            rw [if_neg hx, if_neg h2, if_pos h3, if_neg h4]; rfl
        · rename_i h3
          refine key (k := 0) (a0 := []) rfl (by simp) h fun q' f' => ?_
          simp only [textF, List.nil_append]
          rw [if_neg hx, if_neg h2, if_neg h3]; rfl
theorem text_split {l t : Src} {n : Nat} (h : text l = .ok (t, n)) : ∃ a b, l = a ++ b ∧ n = a.length ∧ t.length + 1 ≤ n ∧ t.length ≤ 1024 ∧ ∀ b', text (a ++ b') = .ok (t, n) := by
  obtain ⟨a, b, h1, h2, h3, h4, h5, h6⟩ := textF_split _ _ _ _ _ _ _ h
  refine ⟨a, b, h1, by omega, by simp at h4; omega, h5, fun b' => ?_⟩
  exact h6 b' _ (by simp; omega)
theorem hexL_split : ∀ (l : Src) (hf : UInt8) (odd : Bool) (acc : Src) (n0 : Nat) (t : Src) (n : Nat), hexL hf odd l acc n0 = .ok (t, n) →
    ∃ a b, l = a ++ b ∧ n = n0 + a.length ∧ 0 < a.length ∧ 2 * t.length + 1 ≤ 2 * acc.length + a.length + (if odd then 1 else 0) ∧ t.length ≤ 1024 ∧ ∀ b', hexL hf odd (a ++ b') acc n0 = .ok (t, n)
  | [], _, _, _, _, _, _, h => by cases h
  | x :: r, hf, odd, acc, n0, t, n, h => by
    have key : ∀ {hf' : UInt8} {odd' : Bool} {acc' : Src}, 2 * acc'.length + (if odd' then 1 else 0) ≤ 2 * acc.length + 1 + (if odd then 1 else 0) → hexL hf' odd' r acc' (n0 + 1) = .ok (t, n) →
        (∀ q', hexL hf odd (x :: q') acc n0 = hexL hf' odd' q' acc' (n0 + 1)) →
        ∃ a b, x :: r = a ++ b ∧ n = n0 + a.length ∧ 0 < a.length ∧ 2 * t.length + 1 ≤ 2 * acc.length + a.length + (if odd then 1 else 0) ∧ t.length ≤ 1024 ∧ ∀ b', hexL hf odd (a ++ b') acc n0 = .ok (t, n) := by
      intro hf' odd' acc' hl h2 hst
      obtain ⟨a, b, h1, h3, h4, h5, h6, h7⟩ := hexL_split r hf' odd' acc' _ t n h2
      refine ⟨x :: a, b, by rw [h1]; rfl, by simp; omega, by simp, by simp; omega, h6, fun b' => ?_⟩
      rw [List.cons_append, hst, h7]
    simp only [hexL] at h
    split at h
    · rename_i h1
      refine key (by omega) h fun q' => ?_
      simp only [hexL]; rw [if_pos h1]
    · rename_i h1
      split at h
      · rename_i h2
        obtain ⟨e1, e2, e3⟩ := limited_ok h
        subst e1; subst e2
        refine ⟨[x], r, rfl, by simp, by simp, by simp, e3, fun b' => ?_⟩
        show hexL hf odd (x :: b') t n0 = _
        simp only [hexL]
        rw [if_neg h1, if_pos h2]; exact h
      · rename_i h2
        split at h
        · cases h
        · rename_i v hv
          split at h
          · rename_i ho
            refine key (by simp [ho]; omega) h fun q' => ?_
            simp only [hexL]
            rw [if_neg h1, if_neg h2, hv]
            dsimp only
            rw [if_pos ho]
          · rename_i ho
            refine key (by simp [ho]) h fun q' => ?_
            simp only [hexL]
            rw [if_neg h1, if_neg h2, hv]
            dsimp only
            rw [if_neg ho]
theorem hex_split {l t : Src} {n : Nat} (h : hex l = .ok (t, n)) : ∃ a b, l = a ++ b ∧ n = a.length ∧ 0 < n ∧ 2 * t.length + 1 ≤ n ∧ t.length ≤ 1024 ∧ ∀ b', hex (a ++ b') = .ok (t, n) := by
  obtain ⟨a, b, h1, h2, h3, h4, h5, h6⟩ := hexL_split _ _ _ _ _ _ _ h
  refine ⟨a, b, h1, by omega, by omega, by simp at h4; omega, h5, fun b' => h6 b'⟩
/-! One token. -/
def isRun (k : Int) : Prop := k = 1 ∨ k = 2 ∨ k = 4 ∨ k = 5
theorem mapInt_ok {k : Int} {n m : Nat} {e : Except Int Int} {t : BTok} (h : mapInt k n e = .ok (t, m)) : m = n ∧ t.kind = k ∧ e = .ok t.int ∧ t.text = [] := by
  cases e with
  | error e => cases h
  | ok v => cases h; exact ⟨rfl, rfl, rfl, rfl⟩
theorem mapTxt_ok {k : Int} {n m : Nat} {e : Except Int Src} {t : BTok} (h : mapTxt k n e = .ok (t, m)) : m = n ∧ t.kind = k ∧ e = .ok t.text ∧ t.int = 0 := by
  cases e with
  | error e => cases h
  | ok v => cases h; exact ⟨rfl, rfl, rfl, rfl⟩
theorem mapRes_ok {k : Int} {m : Nat} {e : Res Src} {t : BTok} (h : mapRes k e = .ok (t, m)) : ∃ n, m = n + 1 ∧ t.kind = k ∧ e = .ok (t.text, n) ∧ t.int = 0 := by
  cases e with
  | error e => cases h
  | ok v => obtain ⟨v, n⟩ := v; cases h; exact ⟨n, rfl, rfl, rfl, rfl⟩
def signB (x : UInt8) : Bool := x == 43 || x == 45 || digit x
theorem one_cons (x : UInt8) (r : Src) : one (x :: r) =
    if signB x then mapInt 1 (run (x :: r)).length (integer (run (x :: r)))
    else if regular x then mapTxt 5 (run (x :: r)).length (word (run (x :: r)))
    else if x == 47 then mapTxt 2 (1 + (run r).length) (nameW (run r))
    else if x == 64 then mapInt 4 (1 + (run r).length) (reference (run r))
    else if x == 40 then mapRes 3 (text r)
    else if x == 91 then .ok (⟨6, 0, []⟩, 1)
    else if x == 93 then .ok (⟨7, 0, []⟩, 1)
    else if x == 60 then (if r.head? = some 60 then .ok (⟨8, 0, []⟩, 2) else mapRes 3 (hex r))
    else if x == 62 then (if r.head? = some 62 then .ok (⟨9, 0, []⟩, 2) else .error 5)
    else .error 5 := rfl
/-- What a token's own bytes are, and that it is read from them alone. -/
structure Own (l : Src) (t : BTok) (n : Nat) (a b : Src) : Prop where
  eq : l = a ++ b
  len : n = a.length
  pos : 0 < a.length
  stop : isRun t.kind → nr b
  same : ∀ b', (isRun t.kind → nr b') → one (a ++ b') = .ok (t, n)
theorem run_cons {x : UInt8} {r : Src} (h : regular x = true) : run (x :: r) = x :: run r := by
  unfold run; rw [List.takeWhile_cons, h]; rfl
theorem u8_all (p : UInt8 → Bool) (h : ∀ n : Fin 256, p (UInt8.ofFin n) = true) (x : UInt8) : p x = true := by
  have := h x.toFin
  rwa [UInt8.ofFin_toFin] at this
theorem signB_regular {x : UInt8} (h : signB x = true) : regular x = true := by
  have := u8_all (fun x => !signB x || regular x) (by decide +kernel) x
  rw [h] at this; simpa using this
theorem one_own {l : Src} {t : BTok} {n : Nat} (h : one l = .ok (t, n)) : ∃ a b, Own l t n a b := by
  cases l with
  | nil => cases h
  | cons x r =>
    have keyr : ∀ (k : Int) (hk : isRun k), regular x = true → n = (run (x :: r)).length → t.kind = k →
        (∀ q : Src, regular x = true → run (x :: q) = run (x :: r) → one (x :: q) = one (x :: r)) → ∃ a b, Own (x :: r) t n a b := by
      intro k hk hx hn ht hst
      obtain ⟨b, hb1, hb2⟩ := run_split r
      refine ⟨x :: run r, b, by rw [List.cons_append, ← hb1], by rw [hn, run_cons hx], by simp, fun _ => hb2, fun b' hb' => ?_⟩
      rw [List.cons_append, hst _ hx ?_, h]
      rw [run_cons hx, run_cons hx, run_ext (run_all r) (hb' (ht ▸ hk))]
    have keyd : ∀ (k : Int) (hk : isRun k), n = 1 + (run r).length → t.kind = k →
        (∀ q : Src, run q = run r → one (x :: q) = one (x :: r)) → ∃ a b, Own (x :: r) t n a b := by
      intro k hk hn ht hst
      obtain ⟨b, hb1, hb2⟩ := run_split r
      refine ⟨x :: run r, b, by rw [List.cons_append, ← hb1], by simp; omega, by simp, fun _ => hb2, fun b' hb' => ?_⟩
      rw [List.cons_append, hst _ (run_ext (run_all r) (hb' (ht ▸ hk))), h]
    have h0 := h
    rw [one_cons] at h
    split at h
    · rename_i h1
      obtain ⟨e1, e2, _, _⟩ := mapInt_ok h
      exact keyr 1 (.inl rfl) (signB_regular h1) e1 e2 fun q hx hq => by rw [one_cons, one_cons, if_pos h1, if_pos h1, hq]
    split at h
    · rename_i h1 h2
      obtain ⟨e1, e2, _, _⟩ := mapTxt_ok h
      exact keyr 5 (.inr (.inr (.inr rfl))) h2 e1 e2 fun q hx hq => by rw [one_cons, one_cons, if_neg h1, if_pos h2, if_neg h1, if_pos h2, hq]
    split at h
    · rename_i h1 h2 h3
      obtain ⟨e1, e2, _, _⟩ := mapTxt_ok h
      exact keyd 2 (.inr (.inl rfl)) e1 e2 fun q hq => by rw [one_cons, one_cons, if_neg h1, if_neg h2, if_pos h3, if_neg h1, if_neg h2, if_pos h3, hq]
    split at h
    · rename_i h1 h2 h3 h4
      obtain ⟨e1, e2, _, _⟩ := mapInt_ok h
      exact keyd 4 (.inr (.inr (.inl rfl))) e1 e2 fun q hq => by rw [one_cons, one_cons, if_neg h1, if_neg h2, if_neg h3, if_pos h4, if_neg h1, if_neg h2, if_neg h3, if_pos h4, hq]
    split at h
    · rename_i h1 h2 h3 h4 h5
      obtain ⟨m, e1, e2, e3, e4⟩ := mapRes_ok h
      obtain ⟨a, b, f1, f2, f3, f4, f5⟩ := text_split e3
      refine ⟨x :: a, b, by rw [f1]; rfl, by simp; omega, by simp, fun hk => absurd hk (by rw [e2]; unfold isRun; omega), fun b' _ => ?_⟩
      rw [List.cons_append, one_cons, if_neg h1, if_neg h2, if_neg h3, if_neg h4, if_pos h5, f5, ← e3]; exact h
    split at h
    · rename_i h1 h2 h3 h4 h5 h6
      cases h
      refine ⟨[x], r, rfl, rfl, by simp, fun hk => absurd hk (by unfold isRun; decide), fun b' _ => ?_⟩
      show one (x :: b') = _
      rw [one_cons, if_neg h1, if_neg h2, if_neg h3, if_neg h4, if_neg h5, if_pos h6]
    split at h
    · rename_i h1 h2 h3 h4 h5 h6 h7
      cases h
      refine ⟨[x], r, rfl, rfl, by simp, fun hk => absurd hk (by unfold isRun; decide), fun b' _ => ?_⟩
      show one (x :: b') = _
      rw [one_cons, if_neg h1, if_neg h2, if_neg h3, if_neg h4, if_neg h5, if_neg h6, if_pos h7]
    split at h
    · rename_i h1 h2 h3 h4 h5 h6 h7 h8
      split at h
      · rename_i h9
        cases h
        cases r with
        | nil => cases h9
        | cons y r =>
          have hy : y = 60 := by simpa using h9
          subst hy
          refine ⟨[x, 60], r, rfl, rfl, by simp, fun hk => absurd hk (by unfold isRun; decide), fun b' _ => ?_⟩
          show one (x :: 60 :: b') = _
          rw [one_cons, if_neg h1, if_neg h2, if_neg h3, if_neg h4, if_neg h5, if_neg h6, if_neg h7, if_pos h8]
          exact if_pos rfl
      · rename_i h9
        obtain ⟨m, e1, e2, e3, e4⟩ := mapRes_ok h
        obtain ⟨a, b, f1, f2, f0, f3, f4, f5⟩ := hex_split e3
        refine ⟨x :: a, b, by rw [f1]; rfl, by simp; omega, by simp, fun hk => absurd hk (by rw [e2]; unfold isRun; omega), fun b' _ => ?_⟩
        rw [List.cons_append, one_cons, if_neg h1, if_neg h2, if_neg h3, if_neg h4, if_neg h5, if_neg h6, if_neg h7, if_pos h8, if_neg, f5, ← e3]
        · exact h
        · intro hh
          cases a with
          | nil => simp at f2; omega
          | cons y a => exact h9 (by rw [f1]; simpa using hh)
    split at h
    · rename_i h1 h2 h3 h4 h5 h6 h7 h8 h9
      split at h
      · rename_i h10
        cases h
        cases r with
        | nil => cases h10
        | cons y r =>
          have hy : y = 62 := by simpa using h10
          subst hy
          refine ⟨[x, 62], r, rfl, rfl, by simp, fun hk => absurd hk (by unfold isRun; decide), fun b' _ => ?_⟩
          show one (x :: 62 :: b') = _
          rw [one_cons, if_neg h1, if_neg h2, if_neg h3, if_neg h4, if_neg h5, if_neg h6, if_neg h7, if_neg h8, if_pos h9]
          exact if_pos rfl
      · cases h
    · cases h
end Tk
end Go.Proofs.YthbdhijkdldmoaaGreatDoor
namespace Go.Proofs.YthbdhijkdldmoaaGreatDoor
namespace Tk
theorem scanF_step (f p : Nat) (l : Src) : scanF (f + 1) p l = match l.drop (skipN false l) with
    | [] => .ok []
    | x :: r => match one (x :: r) with
      | .error e => .error (p + skipN false l, e)
      | .ok (t, n) => match scanF f (p + skipN false l + n) ((x :: r).drop n) with
        | .error e => .error e
        | .ok ts => .ok (⟨t, p + skipN false l, p + skipN false l + n⟩ :: ts) := rfl
theorem scanF_nil {f p : Nat} {l : Src} (h : skipN false l = l.length) : scanF (f + 1) p l = .ok [] := by
  rw [scanF_step, h, List.drop_length]
/-- One step of Scan where a token stands. -/
theorem scanF_tok {f p : Nat} {l r : Src} {x : UInt8} {t : BTok} {n : Nat} {a b : Src} (h : l.drop (skipN false l) = x :: r) (ho : Own (x :: r) t n a b) :
    scanF (f + 1) p l = match scanF f (p + skipN false l + n) b with
      | .error e => .error e
      | .ok ts => .ok (⟨t, p + skipN false l, p + skipN false l + n⟩ :: ts) := by
  rw [scanF_step, h]
  dsimp only
  have h1 := ho.same b ho.stop
  rw [← ho.eq] at h1
  rw [h1]
  dsimp only
  rw [ho.eq, ho.len, List.drop_left]
theorem own_of {l : Src} {t : BTok} {n : Nat} (h : one l = .ok (t, n)) : ∃ a b, Own l t n a b := one_own h
theorem drop_len {l r : Src} {x : UInt8} {k : Nat} (h : l.drop k = x :: r) : l.length = k + (x :: r).length ∧ k < l.length := by
  have h1 := congrArg List.length h
  rw [List.length_drop] at h1
  have : (x :: r).length = r.length + 1 := rfl
  omega
/-- More steps change nothing. -/
theorem scanF_fuel : ∀ (f g p : Nat) (l : Src), l.length < f → l.length < g → scanF f p l = scanF g p l
  | 0, _, _, _, h, _ => absurd h (by omega)
  | _ + 1, 0, _, _, _, h => absurd h (by omega)
  | f + 1, g + 1, p, l, hf, hg => by
    rw [scanF_step, scanF_step]
    split
    · rfl
    · rename_i x r hd
      obtain ⟨d1, d2⟩ := drop_len hd
      split
      · rfl
      · rename_i t n ho
        obtain ⟨a, b, hw⟩ := own_of ho
        have hl := congrArg List.length hw.eq
        rw [List.length_append] at hl
        have := hw.pos
        rw [hw.eq, hw.len, List.drop_left, scanF_fuel f g _ b (by omega) (by omega)]
/-- Another place. -/
def sh (q : Nat) (t : Tok) : Tok := ⟨t.b, t.at_ + q, t.en + q⟩
theorem scanF_shift : ∀ (f p q : Nat) (l : Src), scanF f (p + q) l = match scanF f p l with
    | .error e => .error (e.1 + q, e.2)
    | .ok ts => .ok (ts.map (sh q))
  | 0, _, _, _ => rfl
  | f + 1, p, q, l => by
    rw [scanF_step, scanF_step]
    split
    · rfl
    · rename_i x r hd
      split
      · rename_i e he
        dsimp only
        rw [show p + q + skipN false l = p + skipN false l + q by omega]
      · rename_i t n ho
        rw [show p + q + skipN false l + n = (p + skipN false l + n) + q by omega, scanF_shift f _ q]
        cases scanF f (p + skipN false l + n) ((x :: r).drop n) with
        | error e => rfl
        | ok ts =>
          dsimp only
          rw [show p + q + skipN false l = p + skipN false l + q by omega, List.map_cons]; rfl
/-- Bytes that are skipped hold no token. -/
theorem scan_gap {g : Src} (h : skipN false g = g.length) (hl : g.length ≤ 8192) : scan g = .ok [] := by
  unfold scan
  rw [if_neg (by omega)]
  exact scanF_nil h
/-- A token's own bytes hold it alone. -/
theorem scan_own {l : Src} {t : BTok} {n : Nat} {x : UInt8} {r a b : Src} (h : Own (x :: r) t n a b) (hx : white x = false ∧ x ≠ 37) (hl : n ≤ 8192) : scan a = .ok [⟨t, 0, n⟩] := by
  have _ := l
  unfold scan
  rw [if_neg (by have := h.len; omega)]
  cases a with
  | nil => have := h.pos; simp at this
  | cons y a =>
    have hy : y = x := by have := h.eq; rw [List.cons_append] at this; exact (List.cons.inj this).1.symm
    subst hy
    have h0 : skipN false (y :: a) = 0 := skip_zero hx.1 hx.2
    have hw : Own (y :: a) t n (y :: a) [] := ⟨by simp, h.len, h.pos, fun _ => nr_nil, h.same⟩
    rw [scanF_tok (r := a) (x := y) (by rw [h0]; rfl) hw, h0]
    have hn := h.len
    rw [show (y :: a).length = a.length + 1 from rfl, scanF_nil rfl]
    simp
/-- What is known of the tokens that are left. -/
theorem scanF_left {f p : Nat} {l : Src} {ts : List Tok} (h : scanF f p l = .ok ts) (hl : l.length < f) :
    (ts = [] ∧ skipN false l = l.length) ∨
    ∃ (t : BTok) (n : Nat) (ts' : List Tok) (x : UInt8) (r a b : Src), ts = ⟨t, p + skipN false l, p + skipN false l + n⟩ :: ts' ∧ l = l.take (skipN false l) ++ a ++ b ∧ Own (x :: r) t n a b ∧ l.drop (skipN false l) = x :: r ∧ white x = false ∧ x ≠ 37 ∧ b.length < l.length ∧
      scanF f (p + skipN false l + n) b = .ok ts' := by
  cases f with
  | zero => omega
  | succ f =>
    have h0 := h
    rw [scanF_step] at h
    split at h
    · rename_i hd
      cases h
      refine .inl ⟨rfl, ?_⟩
      have h1 := congrArg List.length hd
      rw [List.length_drop] at h1
      have := skip_le false l
      simp at h1; omega
    · rename_i x r hd
      split at h
      · cases h
      · rename_i t n ho
        obtain ⟨a, b, hw⟩ := own_of ho
        obtain ⟨d1, d2⟩ := drop_len hd
        have hlen := congrArg List.length hw.eq
        rw [List.length_append] at hlen
        have hp := hw.pos
        have hs := scanF_tok (f := f) (p := p) hd hw
        rw [hs] at h0
        cases hb : scanF f (p + skipN false l + n) b with
        | error e => rw [hb] at h0; cases h0
        | ok ts' =>
          rw [hb] at h0
          cases h0
          obtain ⟨w1, w2⟩ := skip_head false l x r hd
          refine .inr ⟨t, n, ts', x, r, a, b, rfl, ?_, hw, hd, w1, w2, by omega, ?_⟩
          · rw [List.append_assoc, ← hw.eq, ← hd, List.take_append_drop]
          · rw [scanF_fuel (f + 1) f _ b (by omega) (by omega)]; exact hb
/-! Lines. -/
theorem drop_app (l m : Src) (k : Nat) : (l ++ m).drop (l.length + k) = m.drop k := by rw [← List.drop_drop, List.drop_left]
theorem skip_app : ∀ (b : Bool) (l m : Src) (x : UInt8) (r : Src), l.drop (skipN b l) = x :: r → skipN b (l ++ m) = skipN b l
  | b, [], m, x, r, h => by simp at h
  | true, y :: q, m, x, r, h => by
    simp only [skipN] at h
    rw [Nat.add_comm, List.drop_succ_cons] at h
    simp only [List.cons_append, skipN]
    rw [skip_app (y != 10) q m x r h]
  | false, y :: q, m, x, r, h => by
    simp only [skipN] at h
    simp only [List.cons_append, skipN]
    split at h
    · rename_i h1
      rw [Nat.add_comm, List.drop_succ_cons] at h
      rw [if_pos h1, if_pos h1, skip_app true q m x r h]
    · rename_i h1
      rw [if_neg h1, if_neg h1]
      split at h
      · rename_i h2
        rw [Nat.add_comm, List.drop_succ_cons] at h
        rw [if_pos h2, if_pos h2, skip_app false q m x r h]
      · rename_i h2
        rw [if_neg h2, if_neg h2]
theorem skip_line : ∀ (b : Bool) (l m : Src), skipN b l = l.length → skipN b (l ++ 10 :: m) = l.length + 1 + skipN false m
  | true, [], m, _ => by
    show 1 + skipN ((10 : UInt8) != 10) m = _
    rw [show ((10 : UInt8) != 10) = false from rfl]; simp
  | false, [], m, _ => by
    show skipN false (10 :: m) = _
    simp only [skipN]
    rw [if_neg (by decide), if_pos (by decide)]; simp
  | true, x :: l, m, h => by
    simp only [skipN, List.length_cons] at h
    simp only [List.cons_append, skipN, List.length_cons]
    rw [skip_line (x != 10) l m (by omega)]; omega
  | false, x :: l, m, h => by
    simp only [skipN, List.length_cons] at h
    simp only [List.cons_append, skipN, List.length_cons]
    split at h
    · rename_i h1
      rw [if_pos h1, skip_line true l m (by omega)]; omega
    · rename_i h1
      split at h
      · rename_i h2
        rw [if_neg h1, if_pos h2, skip_line false l m (by omega)]; omega
      · omega
theorem scanF_lines : ∀ (k : Nat) (l : Src) (f p : Nat) (ts : List Tok) (m : Src) (g : Nat), l.length ≤ k → l.length < f → scanF f p l = .ok ts → (l ++ 10 :: m).length < g →
    scanF g p (l ++ 10 :: m) = match scanF g (p + l.length + 1) m with
      | .error e => .error e
      | .ok us => .ok (ts ++ us)
  | k, l, f, p, ts, m, g, hk, hf, h, hg => by
    have hlg : (l ++ 10 :: m).length = l.length + 1 + m.length := by simp; omega
    obtain ⟨g', rfl⟩ : ∃ g', g = g' + 1 := ⟨g - 1, by omega⟩
    rcases scanF_left h hf with ⟨rfl, hs⟩ | ⟨t, n, ts', x, r, a, b, rfl, he, hw, hd, w1, w2, hb, h2⟩
    · rw [scanF_step, scanF_step, skip_line false l m hs]
      rw [show l.length + 1 + skipN false m = l.length + (1 + skipN false m) by omega, drop_app, show (10 :: m).drop (1 + skipN false m) = m.drop (skipN false m) by rw [Nat.add_comm, List.drop_succ_cons]]
      cases hm : m.drop (skipN false m) with
      | nil => rfl
      | cons y q =>
        dsimp only
        cases one (y :: q) with
        | error e =>
          dsimp only
          rw [show p + (l.length + (1 + skipN false m)) = p + l.length + 1 + skipN false m by omega]
        | ok tn =>
          obtain ⟨t, n⟩ := tn
          dsimp only
          rw [show p + (l.length + (1 + skipN false m)) = p + l.length + 1 + skipN false m by omega]
          cases scanF g' (p + l.length + 1 + skipN false m + n) ((y :: q).drop n) <;> rfl
    · cases k with
      | zero => obtain ⟨_, d2⟩ := drop_len hd; omega
      | succ k =>
        have hs := skip_app false l (10 :: m) x r hd
        have hda : (l ++ 10 :: m).drop (skipN false (l ++ 10 :: m)) = x :: (r ++ 10 :: m) := by
          rw [hs, List.drop_append_of_le_length (skip_le false l), hd]; rfl
        have hnr : isRun t.kind → nr (b ++ 10 :: m) := fun hk c q hc => by
          cases b with
          | nil => rw [List.nil_append] at hc; cases hc; decide
          | cons y b => rw [List.cons_append] at hc; cases hc; exact hw.stop hk _ b rfl
        have hw2 : Own (x :: (r ++ 10 :: m)) t n a (b ++ 10 :: m) := ⟨by rw [← List.append_assoc, ← hw.eq]; rfl, hw.len, hw.pos, hnr, hw.same⟩
        have hlen := congrArg List.length he
        rw [List.length_append, List.length_append, List.length_take, Nat.min_eq_left (skip_le false l)] at hlen
        have := hw.len
        have hp := hw.pos
        rw [scanF_tok hda hw2, hs, scanF_fuel g' (g' + 1) _ (b ++ 10 :: m) (by simp; simp at hg; omega) (by simp; simp at hg; omega), scanF_lines k b f (p + skipN false l + n) ts' m (g' + 1) (by omega) (by omega) h2 (by simp; simp at hg; omega)]
        rw [show p + skipN false l + n + b.length + 1 = p + l.length + 1 by omega]
        cases scanF (g' + 1) (p + l.length + 1) m <;> rfl
end Tk
end Go.Proofs.YthbdhijkdldmoaaGreatDoor
namespace Go.Proofs.YthbdhijkdldmoaaGreatDoor
namespace Tk
/-! Decimal digits. -/
theorem dig_fin : ∀ d : Fin 10, digit (UInt8.ofNat (48 + d.val)) = true ∧ (UInt8.ofNat (48 + d.val)).toNat = 48 + d.val := by decide +kernel
theorem dig_of {d : Nat} (h : d < 10) : digit (UInt8.ofNat (48 + d)) = true ∧ (UInt8.ofNat (48 + d)).toNat - 48 = d := by
  have := dig_fin ⟨d, h⟩
  exact ⟨this.1, by have := this.2; dsimp only at this; omega⟩
theorem natV_snoc (a : Src) (c : UInt8) : natV (a ++ [c]) = natV a * 10 + (c.toNat - 48) := by
  unfold natV; rw [List.foldl_append]; rfl
theorem dec_all (u : Nat) : (∀ c ∈ Lib.decDigits u, digit c = true) ∧ natV (Lib.decDigits u) = u ∧ Lib.decDigits u ≠ [] := by
  induction u using Nat.strongRecOn with
  | _ u ih =>
    by_cases h : u < 10
    · rw [Lib.decDigits, dif_pos h]
      refine ⟨fun c hc => ?_, ?_, by simp⟩
      · rw [List.mem_singleton] at hc; subst hc; exact (dig_of h).1
      · show 0 * 10 + _ = u
        have := (dig_of h).2
        omega
    · rw [Lib.decDigits, dif_neg h]
      obtain ⟨a, b, c⟩ := ih (u / 10) (by omega)
      have hm : u % 10 < 10 := Nat.mod_lt _ (by decide)
      refine ⟨fun c hc => ?_, ?_, by simp⟩
      · rw [List.mem_append, List.mem_singleton] at hc
        rcases hc with hc | rfl
        · exact a c hc
        · exact (dig_of hm).1
      · rw [natV_snoc, b, (dig_of hm).2]; omega
theorem dec_len : ∀ (k u : Nat), u < 10 ^ (k + 1) → (Lib.decDigits u).length ≤ k + 1
  | 0, u, h => by rw [Lib.decDigits, dif_pos (by simpa using h)]; simp
  | k + 1, u, h => by
    by_cases h1 : u < 10
    · rw [Lib.decDigits, dif_pos h1]; simp
    · rw [Lib.decDigits, dif_neg h1, List.length_append, List.length_singleton]
      have := dec_len k (u / 10) (by rw [Nat.pow_succ] at h; omega)
      omega
theorem dec_head (u : Nat) (h : 1 ≤ u) : (Lib.decDigits u).head? ≠ some 48 := by
  induction u using Nat.strongRecOn with
  | _ u ih =>
    by_cases h1 : u < 10
    · rw [Lib.decDigits, dif_pos h1]
      have : ∀ d : Fin 10, 1 ≤ d.val → UInt8.ofNat (48 + d.val) ≠ 48 := by decide +kernel
      intro e
      exact this ⟨u, h1⟩ h (by simpa using e)
    · rw [Lib.decDigits, dif_neg h1]
      have h2 := ih (u / 10) (by omega) (by omega)
      obtain ⟨_, _, hne⟩ := dec_all (u / 10)
      cases hd : Lib.decDigits (u / 10) with
      | nil => exact absurd hd hne
      | cons x r => rw [hd] at h2; exact h2
theorem digit_regular {c : UInt8} (h : digit c = true) : regular c = true := signB_regular (by unfold signB; rw [h]; simp)
theorem digit_plain {c : UInt8} (h : digit c = true) : white c = false ∧ c ≠ 37 ∧ c ≠ 43 ∧ c ≠ 45 := by
  have := u8_all (fun x => !digit x || (!white x && x != 37 && x != 43 && x != 45)) (by decide +kernel) c
  rw [h] at this
  simpa [and_assoc] using this
theorem all_digit {l : Src} (h : ∀ c ∈ l, digit c = true) : l.all digit = true := List.all_eq_true.2 h
theorem int_dec (u : Nat) (h : u ≤ 2147483647) : integer (Lib.decDigits u) = .ok (u : Int) := by
  obtain ⟨a, b, c⟩ := dec_all u
  have hl := dec_len 9 u (by omega)
  cases hd : Lib.decDigits u with
  | nil => exact absurd hd c
  | cons x r =>
    rw [hd] at a b hl
    have hx := digit_plain (a x (by simp))
    have hs : signed (x :: r) = false := by unfold signed; simp [hx.2.2.1, hx.2.2.2]
    have hv : intV (x :: r) = (u : Int) := by unfold intV; simp [hx.2.2.1, hx.2.2.2, b]
    have hg : digs (x :: r) = x :: r := by unfold digs; rw [hs]; rfl
    unfold integer
    rw [hg, if_neg, hv, if_neg (by omega)]
    rintro (h1 | h1 | h1)
    · simp at h1
    · omega
    · rw [all_digit a] at h1; cases h1
theorem int_itoa (n : Int) (h1 : -2147483647 ≤ n) (h2 : n ≤ 2147483647) : integer (Lib.itoa n) = .ok n := by
  by_cases hn : n < 0
  · unfold Lib.itoa
    rw [if_pos hn]
    obtain ⟨a, b, c⟩ := dec_all n.natAbs
    have hl := dec_len 9 n.natAbs (by omega)
    have hc : (Lib.decDigits n.natAbs).length ≠ 0 := fun e => c (List.eq_nil_of_length_eq_zero e)
    have hv : intV (45 :: Lib.decDigits n.natAbs) = n := by
      show -(natV (Lib.decDigits n.natAbs) : Int) = n
      rw [b]; omega
    have hg : digs (45 :: Lib.decDigits n.natAbs) = Lib.decDigits n.natAbs := rfl
    unfold integer
    rw [hg, if_neg, hv, if_neg (by omega)]
    rintro (e | e | e)
    · exact hc e
    · omega
    · rw [all_digit a] at e; cases e
  · obtain ⟨u, rfl⟩ : ∃ u : Nat, n = (u : Int) := ⟨n.toNat, by omega⟩
    have : Lib.itoa (u : Int) = Lib.decDigits u := by unfold Lib.itoa; rw [if_neg hn]; rfl
    rw [this]; exact int_dec u (by omega)
theorem ref_dec (u : Nat) (h1 : 1 ≤ u) (h2 : u ≤ 255) : reference (Lib.decDigits u) = .ok (u : Int) := by
  obtain ⟨a, b, c⟩ := dec_all u
  have hl := dec_len 2 u (by omega)
  unfold reference
  rw [if_neg, b, if_neg (by omega)]
  rintro (e | e | e | e)
  · exact c (List.eq_nil_of_length_eq_zero e)
  · omega
  · exact dec_head u h1 e.1
  · rw [all_digit a] at e; cases e
/-- What an integer is written as. -/
theorem itoa_shape (n : Int) : ∃ x r, Lib.itoa n = x :: r ∧ signB x = true ∧ ∀ c ∈ Lib.itoa n, regular c = true := by
  unfold Lib.itoa
  split
  · refine ⟨45, _, rfl, rfl, fun c hc => ?_⟩
    rcases List.mem_cons.1 hc with rfl | hc
    · decide
    · exact digit_regular ((dec_all _).1 c hc)
  · obtain ⟨a, _, c⟩ := dec_all n.toNat
    cases hd : Lib.decDigits n.toNat with
    | nil => exact absurd hd c
    | cons x r =>
      rw [hd] at a
      refine ⟨x, r, rfl, by unfold signB; rw [a x (by simp)]; simp, fun c hc => digit_regular (a c hc)⟩
/-! Names. -/
theorem hex_name (x : UInt8) : pairV [hexC (x >>> 4), hexC (x &&& 15)] = some x := by
  have := u8_all (fun x => pairV [hexC (x >>> 4), hexC (x &&& 15)] == some x) (by decide +kernel) x
  simpa using this
theorem pair_app {a b : UInt8} {q : Src} : pairV (a :: b :: q) = pairV [a, b] := rfl
theorem plain_name {x : UInt8} (h : plainName x = true) : regular x = true ∧ x ≠ 35 ∧ (decide (x < 33) || decide (126 < x)) = false := by
  have := u8_all (fun x => !plainName x || (regular x && x != 35 && !(decide (x < 33) || decide (126 < x)))) (by decide +kernel) x
  rw [h] at this
  simpa [and_assoc] using this
theorem hexC_regular (x : UInt8) : regular (hexC (x >>> 4)) = true ∧ regular (hexC (x &&& 15)) = true := by
  have := u8_all (fun x => regular (hexC (x >>> 4)) && regular (hexC (x &&& 15))) (by decide +kernel) x
  simpa using this
def prNB (x : UInt8) : Src := if plainName x then [x] else [35, hexC (x >>> 4), hexC (x &&& 15)]
theorem prName_cons (x : UInt8) (t : Src) : prName (x :: t) = prNB x ++ prName t := rfl
theorem prName_regular : ∀ (t : Src), ∀ c ∈ prName t, regular c = true
  | [], c, h => by cases h
  | x :: t, c, h => by
    rw [prName_cons, List.mem_append] at h
    rcases h with h | h
    · unfold prNB at h
      split at h
      · rename_i hp
        rw [List.mem_singleton] at h; subst h; exact (plain_name hp).1
      · simp only [List.mem_cons, List.not_mem_nil, or_false] at h
        rcases h with rfl | rfl | rfl
        · decide
        · exact (hexC_regular x).1
        · exact (hexC_regular x).2
    · exact prName_regular t c h
theorem nameF_pr : ∀ (t : Src) (f : Nat) (acc : Src), (∀ c ∈ t, c ≠ 0) → (prName t).length < f → nameF f (prName t) acc = .ok (acc ++ t)
  | [], f, acc, _, hf => by
    obtain ⟨g, rfl⟩ : ∃ g, f = g + 1 := ⟨f - 1, by omega⟩
    show Except.ok acc = _
    rw [List.append_nil]
  | x :: t, f, acc, h0, hf => by
    obtain ⟨g, rfl⟩ : ∃ g, f = g + 1 := ⟨f - 1, by omega⟩
    rw [prName_cons, List.length_append] at hf
    rw [prName_cons]
    unfold prNB at hf ⊢
    have hx0 : (x == 0) = false := by simpa using h0 x (by simp)
    have ih := fun g hg => nameF_pr t g (acc ++ [x]) (fun c hc => h0 c (by simp [hc])) hg
    rw [List.append_assoc] at ih
    split
    · rename_i hp
      rw [if_pos hp] at hf
      obtain ⟨p1, p2, p3⟩ := plain_name hp
      rw [List.cons_append, List.nil_append]
      simp only [nameF]
      rw [if_neg (by simpa using p2), if_neg (by rw [p3]; decide), ih g (by simp at hf; omega)]
      rfl
    · rename_i hp
      rw [if_neg hp] at hf
      simp only [List.cons_append, List.nil_append, nameF]
      rw [if_pos (by decide), pair_app, hex_name]
      dsimp only
      rw [hx0, if_neg (by decide)]
      show nameF g (prName t) _ = _
      rw [ih g (by simp at hf; omega)]; rfl
theorem prName_len (t : Src) : t.length ≤ (prName t).length := by
  induction t with
  | nil => exact Nat.le_refl _
  | cons x t ih =>
    rw [prName_cons, List.length_append, List.length_cons]
    have : 1 ≤ (prNB x).length := by unfold prNB; split <;> simp
    omega
theorem name_pr {t : Src} (h0 : t ≠ []) (h1 : t.length ≤ 31) (h2 : ∀ c ∈ t, c ≠ 0) : nameW (prName t) = .ok t := by
  unfold nameW
  rw [nameF_pr t _ [] h2 (by omega)]
  dsimp only
  rw [List.nil_append, if_neg (fun e => h0 (List.eq_nil_of_length_eq_zero e)), if_neg (by omega)]
/-! Strings. -/
theorem prB_cases (x : UInt8) : (∃ y, prByte x = [92, y] ∧ ∀ q, esc (y :: q) = .ok ([x], 1)) ∨ (∃ a b, prByte x = [92, 120, a, b] ∧ pairV [a, b] = some x) ∨ (prByte x = [x] ∧ x ≠ 92 ∧ x ≠ 40 ∧ x ≠ 41) := by
  unfold prByte
  by_cases h1 : x = 10
  · subst h1; exact .inl ⟨110, rfl, fun q => rfl⟩
  rw [if_neg (by simpa using h1)]
  by_cases h2 : x = 9
  · subst h2; exact .inl ⟨116, rfl, fun q => rfl⟩
  rw [if_neg (by simpa using h2)]
  by_cases h3 : x = 40 ∨ x = 41 ∨ x = 92
  · rw [if_pos (by simpa [or_assoc] using h3)]
    refine .inl ⟨x, rfl, fun q => ?_⟩
    rcases h3 with rfl | rfl | rfl <;> rfl
  rw [if_neg (by simpa [or_assoc] using h3)]
  by_cases h4 : (decide (x < 32) || decide (125 < x)) = true
  · rw [if_pos h4]
    exact .inr (.inl ⟨_, _, rfl, hex_name x⟩)
  · rw [if_neg h4]
    exact .inr (.inr ⟨rfl, fun e => h3 (.inr (.inr e)), fun e => h3 (.inl e), fun e => h3 (.inr (.inl e))⟩)
theorem textF_pr : ∀ (t : Src) (f : Nat) (acc : Src) (n : Nat) (b : Src), acc.length + t.length ≤ 1024 → (t.flatMap prByte).length + 1 < f →
    textF f 1 (t.flatMap prByte ++ 41 :: b) acc n = .ok (acc ++ t, n + (t.flatMap prByte).length + 1)
  | [], f, acc, n, b, hl, hf => by
    obtain ⟨g, rfl⟩ : ∃ g, f = g + 1 := ⟨f - 1, by omega⟩
    show textF (g + 1) 1 (41 :: b) acc n = _
    simp only [textF]
    rw [if_neg (by decide), if_neg (by decide), if_pos (by decide), if_pos trivial]
    unfold limited
    rw [if_neg (by simp at hl; omega)]
    simp
  | x :: t, f, acc, n, b, hl, hf => by
    obtain ⟨g, rfl⟩ : ∃ g, f = g + 1 := ⟨f - 1, by omega⟩
    rw [List.flatMap_cons, List.length_append] at hf ⊢
    rw [show (prByte x ++ t.flatMap prByte) ++ 41 :: b = prByte x ++ (t.flatMap prByte ++ 41 :: b) from List.append_assoc _ _ _]
    have hl' : (acc ++ [x]).length + t.length ≤ 1024 := by simp at hl ⊢; omega
    rcases prB_cases x with ⟨y, e1, e2⟩ | ⟨a, c, e1, e2⟩ | ⟨e1, h1, h2, h3⟩
    · rw [e1] at hf ⊢
      show textF (g + 1) 1 (92 :: (y :: (t.flatMap prByte ++ 41 :: b))) acc n = _
      simp only [textF]
      rw [if_pos (by decide), e2]
      dsimp only
      rw [List.drop_succ_cons, List.drop_zero, textF_pr t g _ _ b hl' (by simp only [List.length_cons, List.length_nil] at hf; omega), List.append_assoc]
      simp only [List.length_cons, List.length_nil, List.singleton_append]
      congr 2
      omega
    · rw [e1] at hf ⊢
      show textF (g + 1) 1 (92 :: (120 :: a :: c :: (t.flatMap prByte ++ 41 :: b))) acc n = _
      have he : esc (120 :: a :: c :: (t.flatMap prByte ++ 41 :: b)) = .ok ([x], 3) := by
        have e : ∀ r : Src, esc (120 :: r) = match pairV r with | some v => .ok ([v], 3) | none => .error 5 := fun r => rfl
        rw [e, pair_app, e2]
      simp only [textF]
      rw [if_pos (by decide), he]
      dsimp only
      show textF g 1 (t.flatMap prByte ++ 41 :: b) _ _ = _
      rw [textF_pr t g _ _ b hl' (by simp only [List.length_cons, List.length_nil] at hf; omega), List.append_assoc]
      simp only [List.length_cons, List.length_nil, List.singleton_append]
      congr 2
      omega
    · rw [e1] at hf ⊢
      show textF (g + 1) 1 (x :: (t.flatMap prByte ++ 41 :: b)) acc n = _
      simp only [textF]
      rw [if_neg (by simpa using h1), if_neg (by simpa using h2), if_neg (by simpa using h3), textF_pr t g _ _ b hl' (by simp only [List.length_cons, List.length_nil] at hf; omega), List.append_assoc]
      simp only [List.length_cons, List.length_nil, List.singleton_append]
      congr 2
      omega
theorem text_pr {t b : Src} (h : t.length ≤ 1024) : text (t.flatMap prByte ++ 41 :: b) = .ok (t, (t.flatMap prByte).length + 1) := by
  unfold text
  rw [textF_pr t _ [] 0 b (by simpa using h) (by rw [List.length_append, List.length_cons]; omega)]
  simp
end Tk
end Go.Proofs.YthbdhijkdldmoaaGreatDoor
namespace Go.Proofs.YthbdhijkdldmoaaGreatDoor
namespace Tk
def prTok (t : BTok) : Src :=
  if t.kind = 1 then Lib.itoa t.int else if t.kind = 2 then 47 :: prName t.text else if t.kind = 3 then prText t.text else if t.kind = 4 then 64 :: Lib.itoa t.int else if t.kind = 5 then t.text
  else if t.kind = 6 then [91] else if t.kind = 7 then [93] else if t.kind = 8 then [60, 60] else [62, 62]
/-- A token that Print writes. -/
inductive VTok : BTok → Prop
  | int (n : Int) (h1 : -2147483647 ≤ n) (h2 : n ≤ 2147483647) : VTok ⟨1, n, []⟩
  | name (s : Src) (h0 : s ≠ []) (h1 : s.length ≤ 31) (h2 : ∀ c ∈ s, c ≠ 0) : VTok ⟨2, 0, s⟩
  | text (s : Src) (h : s.length ≤ 1024) : VTok ⟨3, 0, s⟩
  | ref (n : Nat) (h1 : 1 ≤ n) (h2 : n ≤ 255) : VTok ⟨4, n, []⟩
  | word (s : Src) (h : word s = .ok s) : VTok ⟨5, 0, s⟩
  | list : VTok ⟨6, 0, []⟩
  | listEnd : VTok ⟨7, 0, []⟩
  | dict : VTok ⟨8, 0, []⟩
  | dictEnd : VTok ⟨9, 0, []⟩
def startR (t : BTok) : Bool := decide (t.kind = 1) || decide (t.kind = 5)
def endR (t : BTok) : Bool := decide (t.kind = 1) || (decide (t.kind = 2) || (decide (t.kind = 4) || decide (t.kind = 5)))
theorem notRun {k : Int} (h : k = 3 ∨ 6 ≤ k) : ¬ isRun k := by unfold isRun; omega
theorem endR_run {t : BTok} : endR t = true ↔ isRun t.kind := by unfold endR isRun; simp
theorem word_ok {w v : Src} (h : word w = .ok v) : v = w ∧ ∃ x r, w = x :: r ∧ w.length ≤ 31 ∧ wordC true x = true ∧ r.all (wordC false) = true := by
  cases w with
  | nil => cases h
  | cons x r =>
    simp only [word] at h
    split at h
    · rename_i h1
      rw [Bool.and_eq_true] at h1
      split at h
      · cases h
      · cases h; exact ⟨rfl, x, r, rfl, by omega, h1.1, h1.2⟩
    · cases h
theorem wordC_facts (x : UInt8) : (wordC true x = true → regular x = true ∧ signB x = false) ∧ (wordC false x = true → regular x = true) := by
  have := u8_all (fun x => (!wordC true x || (regular x && !signB x)) && (!wordC false x || regular x)) (by decide +kernel) x
  simp only [Bool.and_eq_true, Bool.or_eq_true, Bool.not_eq_true'] at this
  refine ⟨fun h => ?_, fun h => ?_⟩
  · rcases this.1 with h1 | h1
    · rw [h] at h1; cases h1
    · exact h1
  · rcases this.2 with h1 | h1
    · rw [h] at h1; cases h1
    · exact h1
theorem word_regular {w : Src} (h : word w = .ok w) : ∃ x r, w = x :: r ∧ signB x = false ∧ ∀ c ∈ w, regular c = true := by
  obtain ⟨_, x, r, rfl, _, h1, h2⟩ := word_ok h
  refine ⟨x, r, rfl, ((wordC_facts x).1 h1).2, fun c hc => ?_⟩
  rcases List.mem_cons.1 hc with rfl | hc
  · exact ((wordC_facts c).1 h1).1
  · exact (wordC_facts c).2 (List.all_eq_true.1 h2 c hc)
theorem itoa_nat (n : Nat) : Lib.itoa (n : Int) = Lib.decDigits n := by unfold Lib.itoa; rw [if_neg (by omega)]; rfl
theorem white_regular {x : UInt8} (h : regular x = true) : white x = false ∧ x ≠ 37 := by
  have := u8_all (fun x => !regular x || (!white x && x != 37)) (by decide +kernel) x
  rw [h] at this; simpa using this
/-- A printed token is read again, whatever follows that can't run into it. -/
theorem pr_one {t : BTok} (h : VTok t) (b : Src) (hb : isRun t.kind → nr b) : one (prTok t ++ b) = .ok (t, (prTok t).length) := by
  cases h with
  | int n h1 h2 =>
    obtain ⟨x, r, e, hx, hr⟩ := itoa_shape n
    show one (Lib.itoa n ++ b) = .ok (_, (Lib.itoa n).length)
    have hrun : run (Lib.itoa n ++ b) = Lib.itoa n := run_ext hr (hb (.inl rfl))
    have hi := int_itoa n h1 h2
    rw [e] at hrun hi ⊢
    rw [List.cons_append] at hrun ⊢
    rw [one_cons, if_pos hx, hrun, hi]; rfl
  | name s h0 h1 h2 =>
    show one (47 :: (prName s ++ b)) = .ok (_, (47 :: prName s).length)
    have hrun : run (prName s ++ b) = prName s := run_ext (prName_regular s) (hb (.inr (.inl rfl)))
    rw [one_cons, if_neg (by decide), if_neg (by decide), if_pos (by decide), hrun, name_pr h0 h1 h2, List.length_cons, Nat.add_comm]; rfl
  | text s h =>
    show one (40 :: ((s.flatMap prByte ++ [41]) ++ b)) = .ok (_, (40 :: (s.flatMap prByte ++ [41])).length)
    rw [one_cons, if_neg (by decide), if_neg (by decide), if_neg (by decide), if_neg (by decide), if_pos (by decide), List.append_assoc, List.singleton_append, text_pr h]
    show Except.ok _ = Except.ok _
    simp only [List.length_cons, List.length_append, List.length_nil]
  | ref n h1 h2 =>
    show one (64 :: (Lib.itoa n ++ b)) = .ok (_, (64 :: Lib.itoa n).length)
    rw [itoa_nat]
    have hrun : run (Lib.decDigits n ++ b) = Lib.decDigits n := run_ext (fun c hc => digit_regular ((dec_all n).1 c hc)) (hb (.inr (.inr (.inl rfl))))
    rw [one_cons, if_neg (by decide), if_neg (by decide), if_neg (by decide), if_pos (by decide), hrun, ref_dec n h1 h2, List.length_cons, Nat.add_comm]; rfl
  | word s h =>
    obtain ⟨x, r, e, hx, hr⟩ := word_regular h
    show one (s ++ b) = .ok (_, s.length)
    have hrun : run (s ++ b) = s := run_ext hr (hb (.inr (.inr (.inr rfl))))
    subst e
    rw [List.cons_append] at hrun ⊢
    rw [one_cons, if_neg (by rw [hx]; decide), if_pos (hr x (by simp)), hrun, h]; rfl
  | list => rfl
  | listEnd => rfl
  | dict => rfl
  | dictEnd => rfl
theorem pr_head {t : BTok} (h : VTok t) : ∃ x q, prTok t = x :: q ∧ white x = false ∧ x ≠ 37 ∧ regular x = startR t := by
  cases h with
  | int n h1 h2 =>
    obtain ⟨x, r, e, hx, hr⟩ := itoa_shape n
    have hx2 := hr x (by rw [e]; simp)
    exact ⟨x, r, e, (white_regular hx2).1, (white_regular hx2).2, hx2⟩
  | name s h0 h1 h2 => exact ⟨47, _, rfl, by decide, by decide, (by show regular 47 = (decide ((2 : Int) = 1) || decide ((2 : Int) = 5)); decide)⟩
  | text s h => exact ⟨40, _, rfl, by decide, by decide, (by show regular 40 = (decide ((3 : Int) = 1) || decide ((3 : Int) = 5)); decide)⟩
  | ref n h1 h2 => exact ⟨64, _, rfl, by decide, by decide, (by show regular 64 = (decide ((4 : Int) = 1) || decide ((4 : Int) = 5)); decide)⟩
  | word s h =>
    obtain ⟨x, r, e, hx, hr⟩ := word_regular h
    have hx2 := hr x (by rw [e]; simp)
    exact ⟨x, r, e, (white_regular hx2).1, (white_regular hx2).2, hx2⟩
  | list => exact ⟨91, [], rfl, by decide, by decide, by decide⟩
  | listEnd => exact ⟨93, [], rfl, by decide, by decide, by decide⟩
  | dict => exact ⟨60, [60], rfl, by decide, by decide, by decide⟩
  | dictEnd => exact ⟨62, [62], rfl, by decide, by decide, by decide⟩
theorem snoc_of {l : Src} (h : l ≠ []) : ∃ q x, l = q ++ [x] := ⟨l.dropLast, l.getLast h, (List.dropLast_concat_getLast h).symm⟩
theorem pr_last {t : BTok} (h : VTok t) : ∃ q x, prTok t = q ++ [x] ∧ regular x = endR t := by
  have reg : ∀ {l : Src}, l ≠ [] → (∀ c ∈ l, regular c = true) → ∃ q x, l = q ++ [x] ∧ regular x = true := fun hn hr => by
    obtain ⟨q, x, e⟩ := snoc_of hn
    exact ⟨q, x, e, hr x (by rw [e]; simp)⟩
  cases h with
  | int n h1 h2 =>
    obtain ⟨x, r, e, hx, hr⟩ := itoa_shape n
    exact reg (l := Lib.itoa n) (by rw [e]; simp) hr
  | name s h0 h1 h2 =>
    obtain ⟨q, x, e, hx⟩ := reg (l := prName s) (fun e => h0 (by
      have := prName_len s
      rw [e] at this
      exact List.eq_nil_of_length_eq_zero (by simpa using this))) (prName_regular s)
    exact ⟨47 :: q, x, by show 47 :: prName s = _; rw [e]; rfl, hx⟩
  | text s h => exact ⟨40 :: s.flatMap prByte, 41, rfl, (by show regular 41 = (decide ((3 : Int) = 1) || (decide ((3 : Int) = 2) || (decide ((3 : Int) = 4) || decide ((3 : Int) = 5)))); decide)⟩
  | ref n h1 h2 =>
    obtain ⟨y, r, e0, _, hr⟩ := itoa_shape n
    obtain ⟨q, x, e, hx⟩ := reg (l := Lib.itoa n) (by rw [e0]; simp) hr
    exact ⟨64 :: q, x, by show 64 :: Lib.itoa n = _; rw [e]; rfl, hx⟩
  | word s h =>
    obtain ⟨x, r, e, hx, hr⟩ := word_regular h
    exact reg (l := s) (by rw [e]; simp) hr
  | list => exact ⟨[], 91, rfl, by decide⟩
  | listEnd => exact ⟨[], 93, rfl, by decide⟩
  | dict => exact ⟨[60], 60, rfl, by decide⟩
  | dictEnd => exact ⟨[62], 62, rfl, by decide⟩
theorem pr_own {t : BTok} (h : VTok t) {b x : Src} {y : UInt8} (hx : prTok t ++ b = y :: x) (hb : isRun t.kind → nr b) : Own (y :: x) t (prTok t).length (prTok t) b := by
  obtain ⟨z, q, e, _⟩ := pr_head h
  exact ⟨hx.symm, rfl, by rw [e]; simp, hb, fun b' hb' => pr_one h b' hb'⟩
/-- Tokens, joined; whether a regular byte stands ahead. -/
def sepB (o : Bool) (t : BTok) : Src := if o && startR t then [32] else []
def joinL : Bool → List BTok → Src
  | _, [] => []
  | o, t :: ts => sepB o t ++ (prTok t ++ joinL (endR t) ts)
theorem nr_join {ts : List BTok} (h : ∀ t ∈ ts, VTok t) : nr (joinL true ts) := by
  cases ts with
  | nil => exact nr_nil
  | cons t ts =>
    obtain ⟨x, q, e, _, _, hx⟩ := pr_head (h t (by simp))
    show nr (sepB true t ++ (prTok t ++ joinL (endR t) ts))
    unfold sepB
    cases hs : startR t with
    | true => exact nr_cons (by decide)
    | false =>
      rw [hs] at hx
      rw [e]; exact nr_cons hx
theorem sep_skip {o : Bool} {t : BTok} (h : VTok t) (b : Src) : skipN false (sepB o t ++ (prTok t ++ b)) = (sepB o t).length ∧ (sepB o t ++ (prTok t ++ b)).drop (sepB o t).length = prTok t ++ b := by
  obtain ⟨x, q, e, h1, h2, _⟩ := pr_head h
  refine ⟨?_, List.drop_left⟩
  have h0 : skipN false (prTok t ++ b) = 0 := by rw [e, List.cons_append]; exact skip_zero h1 h2
  unfold sepB
  split
  · show skipN false (32 :: (prTok t ++ b)) = 1
    simp only [skipN]
    rw [if_neg (by decide), if_pos (by decide), h0]
  · exact h0
theorem scan_join : ∀ (ts : List BTok) (o : Bool) (p f : Nat), (∀ t ∈ ts, VTok t) → (joinL o ts).length < f → ∃ us, scanF f p (joinL o ts) = .ok us ∧ us.map (·.b) = ts
  | [], o, p, f, _, hf => by
    obtain ⟨g, rfl⟩ : ∃ g, f = g + 1 := ⟨f - 1, by omega⟩
    exact ⟨[], scanF_nil rfl, rfl⟩
  | t :: ts, o, p, f, h, hf => by
    obtain ⟨g, rfl⟩ : ∃ g, f = g + 1 := ⟨f - 1, by omega⟩
    have ht := h t (by simp)
    have hts : ∀ u ∈ ts, VTok u := fun u hu => h u (by simp [hu])
    obtain ⟨s1, s2⟩ := sep_skip (o := o) ht (joinL (endR t) ts)
    obtain ⟨x, q, e, h1, h2, hx⟩ := pr_head ht
    have hb : isRun t.kind → nr (joinL (endR t) ts) := fun hr => by rw [endR_run.2 hr]; exact nr_join hts
    have hd : prTok t ++ joinL (endR t) ts = x :: (q ++ joinL (endR t) ts) := by rw [e]; rfl
    have hw := pr_own ht hd hb
    have hl : (joinL (endR t) ts).length < g := by
      have : (joinL o (t :: ts)).length = (sepB o t).length + ((prTok t).length + (joinL (endR t) ts).length) := by
        show (sepB o t ++ (prTok t ++ joinL (endR t) ts)).length = _
        rw [List.length_append, List.length_append]
      rw [e, List.length_cons] at this
      omega
    obtain ⟨us, u1, u2⟩ := scan_join ts (endR t) (p + (sepB o t).length + (prTok t).length) g hts hl
    refine ⟨⟨t, p + (sepB o t).length, p + (sepB o t).length + (prTok t).length⟩ :: us, ?_, by rw [List.map_cons, u2]⟩
    show scanF (g + 1) p (sepB o t ++ (prTok t ++ joinL (endR t) ts)) = _
    rw [scanF_tok (r := q ++ joinL (endR t) ts) (x := x) (by rw [s1, s2, hd]) hw, s1, u1]
/-! A missing separator. -/
theorem mapInt_any (k : Int) (n : Nat) (e : Except Int Int) : (∃ c, mapInt k n e = .error c) ∨ ∃ t, mapInt k n e = .ok (t, n) := by
  cases e with
  | error c => exact .inl ⟨c, rfl⟩
  | ok v => exact .inr ⟨_, rfl⟩
theorem mapTxt_any (k : Int) (n : Nat) (e : Except Int Src) : (∃ c, mapTxt k n e = .error c) ∨ ∃ t, mapTxt k n e = .ok (t, n) := by
  cases e with
  | error c => exact .inl ⟨c, rfl⟩
  | ok v => exact .inr ⟨_, rfl⟩
theorem merge_one {t : BTok} (h : VTok t) (hr : isRun t.kind) (w b : Src) (hw : ∀ c ∈ w, regular c = true) (hb : nr b) :
    (∃ c, one (prTok t ++ (w ++ b)) = .error c) ∨ ∃ u, one (prTok t ++ (w ++ b)) = .ok (u, (prTok t).length + w.length) := by
  have app : ∀ {l : Src}, (∀ c ∈ l, regular c = true) → run (l ++ (w ++ b)) = l ++ w := fun hl => by
    rw [← List.append_assoc]
    refine run_ext (fun c hc => ?_) hb
    rcases List.mem_append.1 hc with h1 | h1
    · exact hl c h1
    · exact hw c h1
  cases h with
  | int n h1 h2 =>
    obtain ⟨x, r, e, hx, hr⟩ := itoa_shape n
    have ha := app hr
    show (∃ c, one (Lib.itoa n ++ (w ++ b)) = .error c) ∨ ∃ u, one (Lib.itoa n ++ (w ++ b)) = .ok (u, (Lib.itoa n).length + w.length)
    rw [e] at ha ⊢
    rw [List.cons_append] at ha ⊢
    rw [one_cons, if_pos hx, ha, ← List.length_append]
    exact mapInt_any _ _ _
  | name s h0 h1 h2 =>
    have ha := app (prName_regular s)
    show (∃ c, one (47 :: (prName s ++ (w ++ b))) = .error c) ∨ ∃ u, one (47 :: (prName s ++ (w ++ b))) = .ok (u, (47 :: prName s).length + w.length)
    rw [one_cons, if_neg (by decide), if_neg (by decide), if_pos (by decide), ha, show (47 :: prName s).length + w.length = 1 + (prName s ++ w).length by rw [List.length_cons, List.length_append]; omega]
    exact mapTxt_any _ _ _
  | text s h => exact absurd hr (notRun (.inl rfl))
  | ref n h1 h2 =>
    obtain ⟨y, r, e0, _, hr⟩ := itoa_shape n
    have ha := app hr
    show (∃ c, one (64 :: (Lib.itoa n ++ (w ++ b))) = .error c) ∨ ∃ u, one (64 :: (Lib.itoa n ++ (w ++ b))) = .ok (u, (64 :: Lib.itoa n).length + w.length)
    rw [one_cons, if_neg (by decide), if_neg (by decide), if_neg (by decide), if_pos (by decide), ha, show (64 :: Lib.itoa n).length + w.length = 1 + (Lib.itoa n ++ w).length by rw [List.length_cons, List.length_append]; omega]
    exact mapInt_any _ _ _
  | word s h =>
    obtain ⟨x, r, e, hx, hr⟩ := word_regular h
    have ha := app hr
    show (∃ c, one (s ++ (w ++ b)) = .error c) ∨ ∃ u, one (s ++ (w ++ b)) = .ok (u, s.length + w.length)
    have hx2 := hr x (by rw [e]; simp)
    subst e
    rw [List.cons_append] at ha ⊢
    rw [one_cons, if_neg (by rw [hx]; decide), if_pos hx2, ha, ← List.length_append]
    exact mapTxt_any _ _ _
  | list => exact absurd hr (notRun (.inr (by show (6 : Int) ≤ 6; omega)))
  | listEnd => exact absurd hr (notRun (.inr (by show (6 : Int) ≤ 7; omega)))
  | dict => exact absurd hr (notRun (.inr (by show (6 : Int) ≤ 8; omega)))
  | dictEnd => exact absurd hr (notRun (.inr (by show (6 : Int) ≤ 9; omega)))
theorem start_regular {t : BTok} (h : VTok t) (hs : startR t = true) : ∀ c ∈ prTok t, regular c = true := by
  cases h with
  | int n h1 h2 => exact (itoa_shape n).choose_spec.choose_spec.2.2
  | word s h => obtain ⟨x, r, e, hx, hr⟩ := word_regular h; exact hr
  | name s h0 h1 h2 => cases hs
  | text s h => cases hs
  | ref n h1 h2 => cases hs
  | list => cases hs
  | listEnd => cases hs
  | dict => cases hs
  | dictEnd => cases hs
theorem start_end {t : BTok} (h : startR t = true) : endR t = true := by
  unfold startR at h; unfold endR
  simp only [Bool.or_eq_true, decide_eq_true_eq] at h ⊢
  rcases h with h | h
  · exact .inl h
  · exact .inr (.inr (.inr h))
/-- The joined tokens of pre and x, and those behind them without the separator ahead of y. -/
theorem scan_merge (x y : BTok) (post : List BTok) (hx : VTok x) (hy : VTok y) (hpost : ∀ t ∈ post, VTok t) (hex : endR x = true) (hsy : startR y = true) :
    ∀ (pre : List BTok) (o : Bool) (p f : Nat), (∀ t ∈ pre, VTok t) → (joinL o (pre ++ [x]) ++ (prTok y ++ joinL (endR y) post)).length < f →
      (∃ e, scanF f p (joinL o (pre ++ [x]) ++ (prTok y ++ joinL (endR y) post)) = .error e) ∨ ∃ us, scanF f p (joinL o (pre ++ [x]) ++ (prTok y ++ joinL (endR y) post)) = .ok us ∧ us.length < pre.length + 2 + post.length
  | [], o, p, f, _, hf => by
    obtain ⟨g, rfl⟩ : ∃ g, f = g + 1 := ⟨f - 1, by omega⟩
    have e0 : joinL o ([] ++ [x]) ++ (prTok y ++ joinL (endR y) post) = sepB o x ++ (prTok x ++ (prTok y ++ joinL (endR y) post)) := by
      show (sepB o x ++ (prTok x ++ [])) ++ _ = _
      rw [List.append_nil, List.append_assoc]
    rw [e0] at hf ⊢
    rw [start_end hsy] at hf ⊢
    obtain ⟨s1, s2⟩ := sep_skip (o := o) hx (prTok y ++ joinL true post)
    obtain ⟨z, q, e, h1, h2, _⟩ := pr_head hx
    rw [scanF_step, s1, s2]
    have hd : prTok x ++ (prTok y ++ joinL true post) = z :: (q ++ (prTok y ++ joinL true post)) := by rw [e]; rfl
    rcases merge_one hx (endR_run.1 hex) (prTok y) (joinL true post) (start_regular hy hsy) (nr_join hpost) with ⟨c, hc⟩ | ⟨u, hu⟩
    · rw [hd] at hc ⊢
      dsimp only
      rw [hc]
      exact .inl ⟨_, rfl⟩
    · rw [List.length_append, List.length_append, List.length_append] at hf
      have hpos : 0 < (prTok x).length := by rw [e]; simp
      obtain ⟨us, u1, u2⟩ := scan_join post true (p + (sepB o x).length + ((prTok x).length + (prTok y).length)) g hpost (by omega)
      have hdr : (z :: (q ++ (prTok y ++ joinL true post))).drop ((prTok x).length + (prTok y).length) = joinL true post := by
        rw [← hd, ← List.append_assoc, ← List.length_append, List.drop_left]
      rw [hd] at hu ⊢
      dsimp only
      rw [hu]
      dsimp only
      rw [hdr, u1]
      refine .inr ⟨_, rfl, ?_⟩
      have := congrArg List.length u2
      rw [List.length_map] at this
      simp; omega
  | t :: pre, o, p, f, hp, hf => by
    obtain ⟨g, rfl⟩ : ∃ g, f = g + 1 := ⟨f - 1, by omega⟩
    have ht := hp t (by simp)
    have hpre : ∀ u ∈ pre, VTok u := fun u hu => hp u (by simp [hu])
    have e0 : joinL o (t :: pre ++ [x]) ++ (prTok y ++ joinL (endR y) post) = sepB o t ++ (prTok t ++ (joinL (endR t) (pre ++ [x]) ++ (prTok y ++ joinL (endR y) post))) := by
      show (sepB o t ++ (prTok t ++ joinL (endR t) (pre ++ [x]))) ++ _ = _
      rw [List.append_assoc, List.append_assoc]
    rw [e0] at hf ⊢
    obtain ⟨s1, s2⟩ := sep_skip (o := o) ht (joinL (endR t) (pre ++ [x]) ++ (prTok y ++ joinL (endR y) post))
    obtain ⟨z, q, e, h1, h2, _⟩ := pr_head ht
    have hb : isRun t.kind → nr (joinL (endR t) (pre ++ [x]) ++ (prTok y ++ joinL (endR y) post)) := fun hr => by
      rw [endR_run.2 hr]
      have hn := nr_join (ts := pre ++ [x]) fun u hu => by
        rcases List.mem_append.1 hu with h | h
        · exact hpre u h
        · rw [List.mem_singleton] at h; subst h; exact hx
      have hne : joinL true (pre ++ [x]) ≠ [] := by
        cases pre with
        | nil =>
          obtain ⟨z2, q2, e2, _⟩ := pr_head hx
          show sepB true x ++ (prTok x ++ _) ≠ []
          rw [e2]; simp
        | cons t2 pre =>
          obtain ⟨z2, q2, e2, _⟩ := pr_head (hpre t2 (by simp))
          show sepB true t2 ++ (prTok t2 ++ _) ≠ []
          rw [e2]; simp
      cases hj : joinL true (pre ++ [x]) with
      | nil => exact absurd hj hne
      | cons c r => rw [hj] at hn; exact nr_cons (hn c r rfl)
    have hd : prTok t ++ (joinL (endR t) (pre ++ [x]) ++ (prTok y ++ joinL (endR y) post)) = z :: (q ++ (joinL (endR t) (pre ++ [x]) ++ (prTok y ++ joinL (endR y) post))) := by rw [e]; rfl
    have hw := pr_own ht hd hb
    have hl : (joinL (endR t) (pre ++ [x]) ++ (prTok y ++ joinL (endR y) post)).length < g := by
      rw [List.length_append, List.length_append, e, List.length_cons] at hf
      omega
    rw [scanF_tok (r := q ++ (joinL (endR t) (pre ++ [x]) ++ (prTok y ++ joinL (endR y) post))) (x := z) (by rw [s1, s2, hd]) hw, s1]
    rcases scan_merge x y post hx hy hpost hex hsy pre (endR t) (p + (sepB o t).length + (prTok t).length) g hpre hl with ⟨c, hc⟩ | ⟨us, u1, u2⟩
    · rw [hc]; exact .inl ⟨_, rfl⟩
    · rw [u1]
      refine .inr ⟨_, rfl, ?_⟩
      simp; omega
end Tk
end Go.Proofs.YthbdhijkdldmoaaGreatDoor
namespace Go.Proofs.YthbdhijkdldmoaaGreatDoor
namespace Tk
theorem natV_lt (d : Src) (h : d.all digit = true) : natV d < 10 ^ d.length := by
  have key : ∀ (d : Src) (a : Nat), d.all digit = true → d.foldl (fun n c => n * 10 + (c.toNat - 48)) a < (a + 1) * 10 ^ d.length := by
    intro d
    induction d with
    | nil => intro a _; simp
    | cons c d ih =>
      intro a h
      rw [List.all_cons, Bool.and_eq_true] at h
      have h1 := ih (a * 10 + (c.toNat - 48)) h.2
      have h2 : c.toNat - 48 ≤ 9 := by
        have := u8_all (fun x => !digit x || decide (x.toNat - 48 ≤ 9)) (by decide +kernel) c
        rw [h.1] at this; simpa using this
      have h3 : (a * 10 + (c.toNat - 48) + 1) * 10 ^ d.length ≤ ((a + 1) * 10) * 10 ^ d.length := Nat.mul_le_mul_right _ (by omega)
      rw [List.foldl_cons, List.length_cons, Nat.pow_succ, Nat.mul_comm (10 ^ d.length) 10, ← Nat.mul_assoc]
      omega
  have := key d 0 h
  unfold natV
  simpa using this
theorem dec_len_le {u k : Nat} (h : u < 10 ^ k) (hk : 0 < k) : (Lib.decDigits u).length ≤ k := by
  have := dec_len (k - 1) u (by rw [show k - 1 + 1 = k by omega]; exact h)
  omega
theorem integer_ok {w : Src} {v : Int} (h : integer w = .ok v) : -2147483647 ≤ v ∧ v ≤ 2147483647 ∧ (Lib.itoa v).length ≤ w.length ∧ 0 < w.length := by
  unfold integer at h
  split at h
  · cases h
  · rename_i h1
    split at h
    · cases h
    · rename_i h2
      cases h
      have ha : (digs w).all digit = true := by
        cases hd : (digs w).all digit with
        | true => rfl
        | false => exact absurd (.inr (.inr hd)) h1
      have hp : 0 < (digs w).length := by omega
      have hl := dec_len_le (natV_lt _ ha) hp
      refine ⟨by omega, by omega, ?_⟩
      cases w with
      | nil => simp [digs] at hp
      | cons x r =>
        refine ⟨?_, by simp⟩
        by_cases e1 : x = 45
        · subst e1
          have e2 : digs (45 :: r) = r := rfl
          have e3 : intV (45 :: r) = -(natV r : Int) := rfl
          rw [e2] at hl
          rw [e3]
          unfold Lib.itoa
          split
          · have : (-(natV r : Int)).natAbs = natV r := by omega
            rw [this, List.length_cons, List.length_cons]; omega
          · have : (-(natV r : Int)).toNat = 0 := by omega
            rw [this, Lib.decDigits, dif_pos (by decide)]; simp
        · by_cases e4 : x = 43
          · subst e4
            have e2 : digs (43 :: r) = r := rfl
            have e3 : intV (43 :: r) = (natV r : Int) := rfl
            rw [e2] at hl
            rw [e3, itoa_nat, List.length_cons]; omega
          · have e2 : digs (x :: r) = x :: r := by unfold digs signed; simp [e1, e4]
            have e3 : intV (x :: r) = (natV (x :: r) : Int) := by unfold intV; simp [e1, e4]
            rw [e2] at hl
            rw [e3, itoa_nat]; exact hl
theorem reference_ok {w : Src} {v : Int} (h : reference w = .ok v) : ∃ n : Nat, v = n ∧ 1 ≤ n ∧ n ≤ 255 ∧ 0 < w.length := by
  unfold reference at h
  split at h
  · cases h
  · rename_i h1
    split at h
    · cases h
    · cases h; exact ⟨natV w, rfl, by omega, by omega, by omega⟩
theorem nameF_ok : ∀ (f : Nat) (w acc t : Src), nameF f w acc = .ok t → ∃ s, t = acc ++ s ∧ s.length ≤ w.length ∧ ∀ c ∈ s, c ≠ 0
  | 0, _, _, _, h => by cases h
  | f + 1, [], acc, t, h => by cases h; exact ⟨[], by simp, Nat.le_refl _, fun c hc => by cases hc⟩
  | f + 1, x :: r, acc, t, h => by
    simp only [nameF] at h
    split at h
    · cases hp : pairV r with
      | none => rw [hp] at h; cases h
      | some v =>
        rw [hp] at h
        dsimp only at h
        split at h
        · cases h
        · rename_i hv
          obtain ⟨s, e1, e2, e3⟩ := nameF_ok f _ _ _ h
          refine ⟨v :: s, by rw [e1]; simp, ?_, fun c hc => ?_⟩
          · rw [List.length_drop] at e2; rw [List.length_cons, List.length_cons]; omega
          · rcases List.mem_cons.1 hc with rfl | hc
            · simpa using hv
            · exact e3 c hc
    · split at h
      · cases h
      · rename_i h2
        obtain ⟨s, e1, e2, e3⟩ := nameF_ok f _ _ _ h
        refine ⟨x :: s, by rw [e1]; simp, by rw [List.length_cons, List.length_cons]; omega, fun c hc => ?_⟩
        rcases List.mem_cons.1 hc with rfl | hc
        · intro e; subst e; exact h2 (by decide)
        · exact e3 c hc
theorem nameW_ok {w s : Src} (h : nameW w = .ok s) : s ≠ [] ∧ s.length ≤ 31 ∧ (∀ c ∈ s, c ≠ 0) ∧ s.length ≤ w.length := by
  unfold nameW at h
  cases hn : nameF (w.length + 1) w [] with
  | error e => rw [hn] at h; cases h
  | ok acc =>
    rw [hn] at h
    dsimp only at h
    split at h
    · cases h
    · rename_i h1
      split at h
      · cases h
      · rename_i h2
        cases h
        obtain ⟨s', e1, e2, e3⟩ := nameF_ok _ _ _ _ hn
        rw [List.nil_append] at e1
        subst e1
        exact ⟨fun e => h1 (by rw [e]; rfl), by omega, e3, e2⟩
theorem prName_le (t : Src) : (prName t).length ≤ 3 * t.length := by
  induction t with
  | nil => exact Nat.le_refl _
  | cons x t ih =>
    rw [prName_cons, List.length_append, List.length_cons]
    have : (prNB x).length ≤ 3 := by unfold prNB; split <;> simp
    omega
theorem prByte_le (x : UInt8) : (prByte x).length ≤ 4 := by
  rcases prB_cases x with ⟨y, e, _⟩ | ⟨a, b, e, _⟩ | ⟨e, _⟩ <;> rw [e] <;> simp
theorem prText_le (t : Src) : (prText t).length ≤ 4 * t.length + 2 := by
  have : (t.flatMap prByte).length ≤ 4 * t.length := by
    induction t with
    | nil => exact Nat.le_refl _
    | cons x t ih =>
      have := prByte_le x
      rw [List.flatMap_cons, List.length_append, List.length_cons]; omega
  unfold prText
  rw [List.length_append, List.length_append, List.length_singleton, List.length_singleton]; omega
theorem one_valid {l : Src} {t : BTok} {n : Nat} (h : one l = .ok (t, n)) : VTok t ∧ (prTok t).length + 1 ≤ 4 * n := by
  cases l with
  | nil => cases h
  | cons x r =>
    obtain ⟨kd, iv, tx⟩ := t
    rw [one_cons] at h
    split at h
    · obtain ⟨e1, e2, e3, e4⟩ := mapInt_ok h
      dsimp only at e2 e3 e4
      subst e1 e2 e4
      obtain ⟨a, b, c, d⟩ := integer_ok e3
      exact ⟨.int iv a b, by show (Lib.itoa iv).length + 1 ≤ _; omega⟩
    split at h
    · obtain ⟨e1, e2, e3, e4⟩ := mapTxt_ok h
      dsimp only at e2 e3 e4
      subst e1 e2 e4
      have e5 := (word_ok e3).1
      have e6 : word tx = .ok tx := by rw [← e5] at e3; exact e3
      obtain ⟨_, y, q, e7, _⟩ := word_ok e6
      refine ⟨.word tx e6, ?_⟩
      show tx.length + 1 ≤ _
      rw [← e5, e7, List.length_cons]; omega
    split at h
    · obtain ⟨e1, e2, e3, e4⟩ := mapTxt_ok h
      dsimp only at e2 e3 e4
      subst e1 e2 e4
      obtain ⟨a, b, c, d⟩ := nameW_ok e3
      refine ⟨.name tx a b c, ?_⟩
      have := prName_le tx
      show (47 :: prName tx).length + 1 ≤ _
      rw [List.length_cons]; omega
    split at h
    · obtain ⟨e1, e2, e3, e4⟩ := mapInt_ok h
      dsimp only at e2 e3 e4
      subst e1 e2 e4
      obtain ⟨u, rfl, a, b, c⟩ := reference_ok e3
      refine ⟨.ref u a b, ?_⟩
      show (64 :: Lib.itoa u).length + 1 ≤ _
      rw [itoa_nat, List.length_cons]
      have := dec_len 2 u (by omega)
      omega
    split at h
    · obtain ⟨m, e1, e2, e3, e4⟩ := mapRes_ok h
      dsimp only at e2 e3 e4
      subst e1 e2 e4
      obtain ⟨a, b, f1, f2, f3, f4, f5⟩ := text_split e3
      refine ⟨.text tx f4, ?_⟩
      have := prText_le tx
      show (prText tx).length + 1 ≤ _
      omega
    split at h
    · cases h; exact ⟨.list, by decide⟩
    split at h
    · cases h; exact ⟨.listEnd, by decide⟩
    split at h
    · split at h
      · cases h; exact ⟨.dict, by decide⟩
      · obtain ⟨m, e1, e2, e3, e4⟩ := mapRes_ok h
        dsimp only at e2 e3 e4
        subst e1 e2 e4
        obtain ⟨a, b, f1, f2, f0, f3, f4, f5⟩ := hex_split e3
        refine ⟨.text tx f4, ?_⟩
        have := prText_le tx
        show (prText tx).length + 1 ≤ _
        omega
    split at h
    · split at h
      · cases h; exact ⟨.dictEnd, by decide⟩
      · cases h
    · cases h
theorem own_valid {l a b : Src} {t : BTok} {n : Nat} (h : Own l t n a b) : VTok t ∧ (prTok t).length + 1 ≤ 4 * n := by
  have := h.same b h.stop
  exact one_valid this
theorem scan_valid : ∀ (k : Nat) (l : Src) (f p : Nat) (ts : List Tok) (o : Bool), l.length ≤ k → l.length < f → scanF f p l = .ok ts → (∀ t ∈ ts.map (·.b), VTok t) ∧ (joinL o (ts.map (·.b))).length ≤ 4 * l.length
  | k, l, f, p, ts, o, hk, hf, h => by
    rcases scanF_left h hf with ⟨rfl, hs⟩ | ⟨t, n, ts', x, r, a, b, rfl, he, hw, hd, w1, w2, hb, h2⟩
    · exact ⟨fun t ht => (by cases ht), Nat.zero_le _⟩
    · cases k with
      | zero => omega
      | succ k =>
        obtain ⟨v1, v2⟩ := own_valid hw
        obtain ⟨i1, i2⟩ := scan_valid k b f _ ts' (endR t) (by omega) (by omega) h2
        have hlen := congrArg List.length he
        rw [List.length_append, List.length_append] at hlen
        have hn := hw.len
        refine ⟨fun u hu => ?_, ?_⟩
        · rw [List.map_cons] at hu
          rcases List.mem_cons.1 hu with rfl | hu
          · exact v1
          · exact i1 u hu
        · show (sepB o t ++ (prTok t ++ joinL (endR t) (ts'.map (·.b)))).length ≤ _
          have : (sepB o t).length ≤ 1 := by unfold sepB; split <;> simp
          rw [List.length_append, List.length_append]
          omega
end Tk
end Go.Proofs.YthbdhijkdldmoaaGreatDoor
namespace Go.Proofs.YthbdhijkdldmoaaGreatDoor
namespace Ob
open Tk
/-- An object: its kind (0 null, 1 bool, 2 int, 3 name, 4 text, 5 reference, 6 list, 7 dictionary), number, text, keys, elements. -/
inductive Ox where
  | mk (kind int : Int) (text : Src) (keys : List Src) (kids : List Ox)
def Ox.kind : Ox → Int | .mk k _ _ _ _ => k
def Ox.int : Ox → Int | .mk _ i _ _ _ => i
def Ox.text : Ox → Src | .mk _ _ t _ _ => t
def Ox.keys : Ox → List Src | .mk _ _ _ ks _ => ks
def Ox.kids : Ox → List Ox | .mk _ _ _ _ os => os
/-- The order of strings. -/
def ltB : Src → Src → Bool
  | [], [] => false
  | [], _ :: _ => true
  | _ :: _, [] => false
  | a :: r, b :: s => if a < b then true else if b < a then false else ltB r s
/-- What Print says of a name, a text, an integer, a reference. -/
def nameE (s : Src) : Int := if s.length = 0 ∨ s.any (· == 0) then 4 else if 31 < s.length then 2 else 0
def keysE : Option Src → List Src → Int
  | _, [] => 0
  | p, k :: r => if nameE k ≠ 0 then nameE k else if (match p with | some q => !ltB q k | none => false) then 4 else keysE (some k) r
/-- The first error of an object without its elements. -/
def nodeE (o : Ox) (depth : Nat) : Int :=
  let number := o.kind = 1 ∨ o.kind = 2 ∨ o.kind = 5
  let named := o.kind = 3 ∨ o.kind = 4
  let nested := o.kind = 6 ∨ o.kind = 7
  if o.kind < 0 ∨ 7 < o.kind then 14 else if 12 < depth then 15
  else if (o.int ≠ 0 ∧ ¬ number) ∨ (o.text ≠ [] ∧ ¬ named) ∨ (0 < o.kids.length ∧ ¬ nested) then 4
  else if (o.kind = 7 ∧ o.keys.length ≠ o.kids.length) ∨ (o.kind ≠ 7 ∧ 0 < o.keys.length) then 4
  else if o.kind = 1 ∧ o.int ≠ 0 ∧ o.int ≠ 1 then 3
  else if 256 < o.kids.length then 2
  else keysE none o.keys
/-- A leaf's token. -/
def leafT (o : Ox) : BTok :=
  if o.kind = 0 then ⟨5, 0, [110, 117, 108, 108]⟩ else if o.kind = 1 then ⟨5, 0, if o.int = 1 then [116, 114, 117, 101] else [102, 97, 108, 115, 101]⟩
  else if o.kind = 2 then ⟨1, o.int, []⟩ else if o.kind = 3 then ⟨2, 0, o.text⟩ else if o.kind = 4 then ⟨3, 0, o.text⟩ else ⟨4, o.int, []⟩
/-- What token.Print says of a leaf's token. -/
def tokE (t : BTok) : Int :=
  if t.kind = 1 then (if t.int < -2147483647 ∨ 2147483647 < t.int then 3 else 0)
  else if t.kind = 2 then nameE t.text
  else if t.kind = 3 then (if 1024 < t.text.length then 2 else 0)
  else if t.kind = 4 then (if t.int < 1 ∨ 255 < t.int then 3 else 0)
  else 0
/-- The tokens of elements, with their keys: how many objects were met before and are met behind. -/
def kidsF (g : Ox → Nat → Except Int (List BTok × Nat)) (dict : Bool) : List Src → List Ox → Nat → Except Int (List BTok × Nat)
  | _, [], n => .ok ([], n)
  | ks, o :: os, n => match g o n with
    | .error e => .error e
    | .ok (l, n1) => match kidsF g dict ks.tail os n1 with
      | .error e => .error e
      | .ok (l2, n2) => .ok ((if dict then [⟨2, 0, ks.headD []⟩] else []) ++ (l ++ l2), n2)
/-- The tokens of an object at a depth: fuel. -/
def addF : Nat → Nat → Ox → Nat → Except Int (List BTok × Nat)
  | 0, d, o, n => .error (if 4096 < n + 1 then 2 else nodeE o d)
  | f + 1, d, o, n =>
    if 4096 < n + 1 then .error 2
    else if nodeE o d ≠ 0 then .error (nodeE o d)
    else if o.kind < 6 then (if tokE (leafT o) ≠ 0 then .error (tokE (leafT o)) else .ok ([leafT o], n + 1))
    else match kidsF (addF f (d + 1)) (decide (o.kind = 7)) o.keys o.kids (n + 1) with
      | .error e => .error e
      | .ok (l, n2) => .ok ([⟨if o.kind = 7 then 8 else 6, 0, []⟩] ++ l ++ [⟨if o.kind = 7 then 9 else 7, 0, []⟩], n2)
/-- The canonical form of an object. -/
def printO (o : Ox) : Except Int Src := match addF 12 1 o 0 with
  | .error e => .error e
  | .ok (l, _) => if 8192 < (joinL false l).length then .error 2 else .ok (joinL false l)
end Ob
end Go.Proofs.YthbdhijkdldmoaaGreatDoor
