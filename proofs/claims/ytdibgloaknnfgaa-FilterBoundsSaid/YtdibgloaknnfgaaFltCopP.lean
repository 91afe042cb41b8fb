/- Coding by copies: literals between copies from the last place with the same four bytes; what is coded is decoded. No program is in sight here. -/
import Derived.Test.YtdibgloaknnfgaaFltRunsP
namespace Go.Proofs.Ytdibgloaknnfgaa
/-- Bytes that are not copied, each 128 of them behind their number. -/
def litsF : Nat → List UInt8 → List UInt8
  | 0, _ => []
  | f + 1, l => if l.length = 0 then [] else UInt8.ofNat (min l.length 128 - 1) :: l.take 128 ++ litsF f (l.drop 128)
theorem litsF_nil : ∀ f, litsF f [] = []
  | 0 => rfl
  | f + 1 => by simp [litsF]
theorem litsF_any : ∀ (f : Nat) (l : List UInt8), l.length ≤ f → litsF f l = litsF l.length l
  | 0, l, h => by rw [show l.length = 0 by omega]
  | f + 1, l, h => by
    by_cases h0 : l.length = 0
    · have : l = [] := List.length_eq_zero_iff.1 h0
      subst this
      rw [litsF_nil]; rfl
    · obtain ⟨m, hm⟩ : ∃ m, l.length = m + 1 := ⟨l.length - 1, by omega⟩
      rw [hm]
      simp only [litsF]
      rw [if_neg h0, if_neg h0, litsF_any f _ (by rw [List.length_drop]; omega), litsF_any m _ (by rw [List.length_drop]; omega)]
def litC (l : List UInt8) : List UInt8 := litsF l.length l
theorem litC_nil : litC [] = [] := rfl
theorem litC_more {l : List UInt8} (h : l.length ≠ 0) : litC l = UInt8.ofNat (min l.length 128 - 1) :: l.take 128 ++ litC (l.drop 128) := by
  unfold litC
  obtain ⟨m, hm⟩ : ∃ m, l.length = m + 1 := ⟨l.length - 1, by omega⟩
  conv => lhs; rw [hm]
  simp only [litsF]
  rw [if_neg h, litsF_any m _ (by rw [List.length_drop]; omega)]
theorem litC_length (l : List UInt8) : (litC l).length = l.length + (l.length + 127) / 128 := by
  induction hn : l.length using Nat.strongRecOn generalizing l with
  | ind n ih =>
    by_cases h : l.length = 0
    · have : l = [] := List.length_eq_zero_iff.1 h
      subst this
      simp at hn
      subst hn
      simp [litC_nil]
    · have h1 := ih (l.drop 128).length (by rw [List.length_drop]; omega) (l.drop 128) rfl
      rw [List.length_drop] at h1
      rw [litC_more h, List.length_append, List.length_cons, List.length_take, h1]
      rcases Nat.le_total l.length 128 with h2 | h2
      · rw [Nat.min_eq_right h2]; omega
      · rw [Nat.min_eq_left h2]; omega
/-- The bytes acc and k more, each the one d places before. -/
def copyN (d : Nat) : Nat → List UInt8 → List UInt8
  | 0, acc => acc
  | k + 1, acc => copyN d k (acc ++ [acc.getD (acc.length - d) 0])
theorem copyN_length (d : Nat) : ∀ k acc, (copyN d k acc).length = acc.length + k
  | 0, acc => rfl
  | k + 1, acc => by rw [copyN, copyN_length d k]; simp; omega
/-- What decoding copies answers behind the bytes acc; f bounds the rounds. -/
def decCF : Nat → List UInt8 → List UInt8 → List UInt8 × Int
  | _, [], acc => (acc, 0)
  | 0, _ :: _, _ => ([], 5)
  | f + 1, c :: r, acc =>
    if c.toNat < 128 then
      if r.length < c.toNat + 1 then ([], 12) else if 65536 < acc.length + (c.toNat + 1) then ([], 2) else decCF f (r.drop (c.toNat + 1)) (acc ++ r.take (c.toNat + 1))
    else match r with
      | x :: y :: r => if x.toNat * 256 + y.toNat = 0 ∨ acc.length < x.toNat * 256 + y.toNat then ([], 3) else if 65536 < acc.length + (c.toNat - 125) then ([], 2) else decCF f r (copyN (x.toNat * 256 + y.toNat) (c.toNat - 125) acc)
      | _ => ([], 12)
theorem decCF_cons (f : Nat) (c : UInt8) (r acc : List UInt8) : decCF (f + 1) (c :: r) acc =
    if c.toNat < 128 then
      if r.length < c.toNat + 1 then ([], 12) else if 65536 < acc.length + (c.toNat + 1) then ([], 2) else decCF f (r.drop (c.toNat + 1)) (acc ++ r.take (c.toNat + 1))
    else match r with
      | x :: y :: r => if x.toNat * 256 + y.toNat = 0 ∨ acc.length < x.toNat * 256 + y.toNat then ([], 3) else if 65536 < acc.length + (c.toNat - 125) then ([], 2) else decCF f r (copyN (x.toNat * 256 + y.toNat) (c.toNat - 125) acc)
      | _ => ([], 12) := rfl
theorem decCF_more : ∀ (f : Nat) (l acc : List UInt8), l.length ≤ f → decCF (f + 1) l acc = decCF f l acc
  | _, [], acc, _ => by simp [decCF]
  | 0, _ :: _, _, h => absurd h (by simp)
  | f + 1, c :: r, acc, h => by
    simp only [List.length_cons] at h
    rw [decCF_cons, decCF_cons]
    split
    · split
      · rfl
      split
      · rfl
      · exact decCF_more f _ _ (by rw [List.length_drop]; omega)
    · match r, h with
      | [], _ => rfl
      | [_], _ => rfl
      | x :: y :: r, h =>
        dsimp only
        split
        · rfl
        split
        · rfl
        · simp only [List.length_cons] at h
          exact decCF_more f _ _ (by omega)
theorem decCF_any (l acc : List UInt8) : ∀ f, l.length ≤ f → decCF f l acc = decCF l.length l acc := by
  intro f hf
  induction f with
  | zero => rw [show l.length = 0 by omega]
  | succ f ih =>
    rcases Nat.lt_or_ge f l.length with h | h
    · rw [show l.length = f + 1 by omega]
    · rw [decCF_more f l acc h, ih h]
def decC (l acc : List UInt8) : List UInt8 × Int := decCF l.length l acc
theorem decC_nil (acc : List UInt8) : decC [] acc = (acc, 0) := rfl
theorem decC_lit {c : UInt8} (r acc : List UInt8) (h : c.toNat < 128) : decC (c :: r) acc =
    if r.length < c.toNat + 1 then ([], 12) else if 65536 < acc.length + (c.toNat + 1) then ([], 2) else decC (r.drop (c.toNat + 1)) (acc ++ r.take (c.toNat + 1)) := by
  unfold decC
  rw [List.length_cons, decCF_cons, if_pos h]
  split
  · rfl
  split
  · rfl
  · exact decCF_any _ _ _ (by rw [List.length_drop]; omega)
theorem decC_copy {c : UInt8} (x y : UInt8) (r acc : List UInt8) (h : ¬ c.toNat < 128) : decC (c :: x :: y :: r) acc =
    if x.toNat * 256 + y.toNat = 0 ∨ acc.length < x.toNat * 256 + y.toNat then ([], 3) else if 65536 < acc.length + (c.toNat - 125) then ([], 2) else decC r (copyN (x.toNat * 256 + y.toNat) (c.toNat - 125) acc) := by
  unfold decC
  rw [List.length_cons, decCF_cons, if_neg h]
  dsimp only
  split
  · rfl
  split
  · rfl
  · exact decCF_any _ _ _ (by simp only [List.length_cons]; omega)
theorem decC_short {c : UInt8} {r : List UInt8} (acc : List UInt8) (h : ¬ c.toNat < 128) (hr : r.length < 2) : decC (c :: r) acc = ([], 12) := by
  unfold decC
  rw [List.length_cons, decCF_cons, if_neg h]
  match r, hr with
  | [], _ => rfl
  | [_], _ => rfl
  | _ :: _ :: _, h => simp at h; omega
/-- Literals are decoded. -/
theorem decC_lits (l : List UInt8) : ∀ rest acc : List UInt8, acc.length + l.length ≤ 65536 → decC (litC l ++ rest) acc = decC rest (acc ++ l) := by
  induction hn : l.length using Nat.strongRecOn generalizing l with
  | ind n ih =>
    intro rest acc hs
    by_cases h : l.length = 0
    · have : l = [] := List.length_eq_zero_iff.1 h
      subst this
      rw [litC_nil, List.nil_append, List.append_nil]
    · have hb : (UInt8.ofNat (min l.length 128 - 1)).toNat = min l.length 128 - 1 := by rw [UInt8.toNat_ofNat']; omega
      have htl : (l.take 128).length = min l.length 128 := by rw [List.length_take, Nat.min_comm]
      rw [litC_more h, List.append_assoc, List.cons_append, decC_lit _ _ (by omega), hb, show min l.length 128 - 1 + 1 = (l.take 128).length by omega]
      rw [if_neg (by rw [List.length_append]; omega), if_neg (by omega), List.drop_left, List.take_left]
      rw [ih (l.drop 128).length (by rw [List.length_drop]; omega) (l.drop 128) rfl rest _ (by rw [List.length_append, List.length_drop]; omega), List.append_assoc, List.take_append_drop]
/-- How many bytes from place i are those from place a, below the bound m. -/
def matchN (S : List UInt8) (i a : Nat) : Nat → Nat
  | 0 => 0
  | m + 1 => if i < S.length ∧ S.getD i 0 = S.getD a 0 then matchN S (i + 1) (a + 1) m + 1 else 0
theorem matchN_le (S : List UInt8) : ∀ (m i a : Nat), matchN S i a m ≤ m ∧ i + matchN S i a m ≤ max i S.length
  | 0, i, a => by simp only [matchN]; omega
  | m + 1, i, a => by
    have := matchN_le S m (i + 1) (a + 1)
    simp only [matchN]
    split
    · omega
    · omega
theorem matchN_ge (S : List UInt8) : ∀ (m i a k : Nat), k ≤ m → (∀ j, j < k → i + j < S.length ∧ S.getD (i + j) 0 = S.getD (a + j) 0) → k ≤ matchN S i a m
  | m, i, a, 0, _, _ => Nat.zero_le _
  | 0, i, a, k + 1, h, _ => absurd h (by omega)
  | m + 1, i, a, k + 1, h, hj => by
    simp only [matchN]
    have h0 := hj 0 (by omega)
    rw [Nat.add_zero, Nat.add_zero] at h0
    rw [if_pos h0]
    have := matchN_ge S m (i + 1) (a + 1) k (by omega) fun j hjk => by have := hj (j + 1) (by omega); rwa [← Nat.add_assoc, ← Nat.add_assoc, Nat.add_right_comm i j 1, Nat.add_right_comm a j 1] at this
    omega
theorem take_snoc (S : List UInt8) {i : Nat} (h : i < S.length) : S.take (i + 1) = S.take i ++ [S.getD i 0] := by
  rw [List.take_succ_eq_append_getElem h, List.getD_eq_getElem?_getD, List.getElem?_eq_getElem h]; rfl
/-- Copying matched bytes gives them back. -/
theorem copy_match (S : List UInt8) : ∀ (m i a : Nat), a < i → i ≤ S.length → copyN (i - a) (matchN S i a m) (S.take i) = S.take (i + matchN S i a m)
  | 0, i, a, _, _ => rfl
  | m + 1, i, a, h, hi => by
    simp only [matchN]
    split
    · rename_i hc
      rw [copyN, List.length_take, Nat.min_eq_left hi, show i - (i - a) = a by omega]
      have e : (S.take i).getD a 0 = S.getD i 0 := by
        rw [hc.2, List.getD_eq_getElem?_getD, List.getD_eq_getElem?_getD, List.getElem?_take_of_lt h]
      rw [e, ← take_snoc S hc.1, show i - a = (i + 1) - (a + 1) by omega, copy_match S m (i + 1) (a + 1) (by omega) hc.1]
      congr 1; omega
    · rfl
abbrev Last := List UInt8 → Option Nat
def key (S : List UInt8) (i : Nat) : List UInt8 := (S.drop i).take 4
def noteF (S : List UInt8) (last : Last) (i : Nat) : Last := fun k => if i + 4 ≤ S.length ∧ k = key S i then some i else last k
def noteN (S : List UInt8) (last : Last) (i : Nat) : Nat → Last
  | 0 => last
  | k + 1 => noteF S (noteN S last i k) (i + k)
/-- What may be copied at place i: how many bytes, from where. -/
def cand (S : List UInt8) (last : Last) (i : Nat) : Nat × Nat :=
  if i + 4 ≤ S.length then match last (key S i) with
    | some p => if i - p < 65536 then (matchN S i p 130, p) else (0, 0)
    | none => (0, 0)
  else (0, 0)
def copyB (m d : Nat) : List UInt8 := [UInt8.ofNat (m + 125), UInt8.ofNat (d / 256), UInt8.ofNat d]
/-- The code behind place i; the bytes from place s on are not yet written. -/
def encCF (S : List UInt8) : Nat → Nat → Nat → Last → List UInt8
  | 0, _, s, _ => litC (S.drop s)
  | f + 1, i, s, last =>
    if S.length ≤ i then litC (S.drop s)
    else if (cand S last i).1 = 0 then encCF S f (i + 1) s (noteF S last i)
    else litC ((S.take i).drop s) ++ copyB (cand S last i).1 (i - (cand S last i).2) ++ encCF S f (i + (cand S last i).1) (i + (cand S last i).1) (noteN S last i (cand S last i).1)
def encC (S : List UInt8) : List UInt8 := encCF S S.length 0 0 (fun _ => none)
/-- The places kept lie before i and have their key's four bytes. -/
def LastOk (S : List UInt8) (i : Nat) (last : Last) : Prop := ∀ k p, last k = some p → p < i ∧ p + 4 ≤ S.length ∧ k = key S p
theorem LastOk.note {S : List UInt8} {i : Nat} {last : Last} (h : LastOk S i last) : LastOk S (i + 1) (noteF S last i) := fun k p e => by
  unfold noteF at e
  split at e
  · rename_i hc
    cases e
    exact ⟨by omega, hc.1, hc.2⟩
  · obtain ⟨h1, h2, h3⟩ := h k p e
    exact ⟨by omega, h2, h3⟩
theorem LastOk.noteN {S : List UInt8} {i : Nat} {last : Last} (h : LastOk S i last) : ∀ k, LastOk S (i + k) (noteN S last i k)
  | 0 => h
  | k + 1 => (h.noteN k).note
theorem key_at {S : List UInt8} {i p : Nat} (h : key S i = key S p) (j : Nat) (hj : j < 4) : S.getD (i + j) 0 = S.getD (p + j) 0 := by
  have h1 := congrArg (fun l => l[j]?) h
  simp only [key, List.getElem?_take_of_lt hj, List.getElem?_drop] at h1
  rw [List.getD_eq_getElem?_getD, List.getD_eq_getElem?_getD, h1]
theorem cand_ok {S : List UInt8} {i : Nat} {last : Last} (h : LastOk S i last) (hc : (cand S last i).1 ≠ 0) :
    (cand S last i).2 < i ∧ i - (cand S last i).2 < 65536 ∧ (cand S last i).1 = matchN S i (cand S last i).2 130 ∧ 4 ≤ (cand S last i).1 ∧ (cand S last i).1 ≤ 130 ∧ i + (cand S last i).1 ≤ S.length := by
  unfold cand at hc ⊢
  split at hc
  · rename_i h4
    split at hc
    · rename_i p hp
      split at hc
      · rename_i hd
        rw [if_pos h4]
        rw [if_pos hd]
        obtain ⟨h1, h2, h3⟩ := h _ _ hp
        have h5 := matchN_le S 130 i p
        have h6 := matchN_ge S 130 i p 4 (by omega) fun j hj => ⟨by omega, key_at h3 j hj⟩
        refine ⟨h1, hd, rfl, h6, h5.1, ?_⟩
        dsimp only
        omega
      · exact absurd rfl hc
    · exact absurd rfl hc
  · exact absurd rfl hc
theorem decC_encCF (S : List UInt8) (hS : S.length ≤ 65536) : ∀ (f i s : Nat) (last : Last), LastOk S i last → S.length - i ≤ f → s ≤ i → i ≤ S.length → decC (encCF S f i s last) (S.take s) = (S, 0)
  | 0, i, s, last, _, hf, hs, hi => by
    have := decC_lits (S.drop s) [] (S.take s) (by rw [List.length_take, List.length_drop]; omega)
    rw [List.append_nil, decC_nil, List.take_append_drop] at this
    exact this
  | f + 1, i, s, last, hl, hf, hs, hi => by
    have hend := decC_lits (S.drop s) [] (S.take s) (by rw [List.length_take, List.length_drop]; omega)
    rw [List.append_nil, decC_nil, List.take_append_drop] at hend
    simp only [encCF]
    split
    · exact hend
    split
    · exact decC_encCF S hS f (i + 1) s _ hl.note (by omega) (by omega) (by omega)
    · rename_i h1 hc
      obtain ⟨c1, c2, c3, c4, c5, c6⟩ := cand_ok hl hc
      have ih := decC_encCF S hS f (i + (cand S last i).1) (i + (cand S last i).1) _ (hl.noteN (cand S last i).1) (by omega) (Nat.le_refl _) c6
      generalize noteN S last i (cand S last i).1 = last2 at *
      generalize (cand S last i).1 = m at *
      generalize (cand S last i).2 = a at *
      have e : S.take s ++ (S.take i).drop s = S.take i := by
        have := List.take_append_drop s (S.take i)
        rwa [List.take_take, Nat.min_eq_left hs] at this
      rw [List.append_assoc, decC_lits _ _ _ (by rw [List.length_take, List.length_drop, List.length_take]; omega), e]
      unfold copyB
      have b1 : (UInt8.ofNat (m + 125)).toNat = m + 125 := by rw [UInt8.toNat_ofNat']; omega
      have b2 : (UInt8.ofNat ((i - a) / 256)).toNat = (i - a) / 256 := by rw [UInt8.toNat_ofNat']; omega
      have b3 : (UInt8.ofNat (i - a)).toNat = (i - a) % 256 := by rw [UInt8.toNat_ofNat']
      simp only [List.cons_append, List.nil_append]
      rw [decC_copy _ _ _ _ (by omega), b1, b2, b3, show (i - a) / 256 * 256 + (i - a) % 256 = i - a by omega, show m + 125 - 125 = m by omega]
      rw [if_neg (by rw [List.length_take]; omega), if_neg (by rw [List.length_take]; omega), c3, copy_match S 130 i a c1 hi, ← c3]
      exact ih
theorem decC_encC (S : List UInt8) (hS : S.length ≤ 65536) : decC (encC S) [] = (S, 0) := by
  have := decC_encCF S hS S.length 0 0 (fun _ => none) (fun k p e => by cases e) (by omega) (Nat.le_refl _) (Nat.zero_le _)
  rwa [List.take_zero] at this
theorem encCF_bound (S : List UInt8) : ∀ (f i s : Nat) (last : Last), LastOk S i last → s ≤ i → i ≤ S.length → (encCF S f i s last).length ≤ (S.length - s) + ((S.length - s) + 127) / 128
  | 0, i, s, last, _, hs, hi => by simp only [encCF]; rw [litC_length, List.length_drop]; omega
  | f + 1, i, s, last, hl, hs, hi => by
    simp only [encCF]
    split
    · rw [litC_length, List.length_drop]; omega
    split
    · exact encCF_bound S f (i + 1) s _ hl.note (by omega) (by omega)
    · rename_i h1 hc
      obtain ⟨c1, c2, c3, c4, c5, c6⟩ := cand_ok hl hc
      have ih := encCF_bound S f (i + (cand S last i).1) (i + (cand S last i).1) _ (hl.noteN (cand S last i).1) (Nat.le_refl _) c6
      rw [List.length_append, List.length_append, litC_length, List.length_drop, List.length_take, Nat.min_eq_left hi]
      have : (copyB (cand S last i).1 (i - (cand S last i).2)).length = 3 := rfl
      omega
theorem encC_bound (S : List UInt8) : (encC S).length ≤ S.length + (S.length + 127) / 128 := by
  exact encCF_bound S S.length 0 0 (fun _ => none) (fun k p e => by cases e) (Nat.le_refl _) (Nat.zero_le _)
end Go.Proofs.Ytdibgloaknnfgaa
