/- Merge in plain words, and its law. -/
import Derived.Test.YthbdhijkdldmoaaGreatDoorObjLv
namespace Go.Proofs.YthbdhijkdldmoaaGreatDoor
open Tk Ob
def mergeL : List Tk.Src → List Ox → Ox → Ox
  | [], _, out => out
  | k :: ks, os, out => mergeL ks os.tail (putD out k (os.headD Ox.zero))
def mergeF (a b : Ox) : Except Int Ox :=
  if checkO a ≠ 0 then .error (checkO a) else if checkO b ≠ 0 then .error (checkO b) else if a.kind ≠ 7 ∨ b.kind ≠ 7 then .error 14
  else if checkO (mergeL b.keys b.kids a) ≠ 0 then .error (checkO (mergeL b.keys b.kids a)) else .ok (mergeL b.keys b.kids a)
/-- What rows of keys and elements say of a key. -/
def lookP : List Tk.Src → List Ox → Tk.Src → Option Ox
  | [], _, _ => none
  | k :: ks, os, x => match lookP ks os.tail x with
    | some v => some v
    | none => if x = k then some (os.headD Ox.zero) else none
theorem lookP_none : ∀ (ks : List Tk.Src) (os : List Ox) (x : Tk.Src), x ∉ ks → lookP ks os x = none
  | [], _, _, _ => rfl
  | k :: ks, os, x, h => by
    have h' : x ≠ k ∧ x ∉ ks := by simpa using h
    simp only [lookP]
    rw [lookP_none ks os.tail x h'.2]
    simp [h'.1]
theorem lookP_look : ∀ (ks : List Tk.Src) (os : List Ox) (x : Tk.Src), Sorted ks → lookP ks os x = if (posK ks x).2 = true then some (os.getD (posK ks x).1 Ox.zero) else none
  | [], _, _, _ => rfl
  | k :: ks, os, x, hs => by
    have hs' := List.pairwise_cons.1 hs
    simp only [lookP]
    by_cases hlt : ltB k x = true
    · have e : posK (k :: ks) x = (1 + (posK ks x).1, (posK ks x).2) := by simp only [posK]; rw [if_pos hlt]
      rw [e, lookP_look ks os.tail x hs'.2]
      have hne : x ≠ k := fun h => by rw [h, ltB_irr] at hlt; cases hlt
      by_cases hf : (posK ks x).2 = true
      · rw [if_pos hf, if_pos hf]
        cases os with
        | nil => simp
        | cons o os => simp [Nat.add_comm 1]
      · rw [if_neg hf, if_neg hf]
        simp [hne]
    · have e : posK (k :: ks) x = (0, decide (k = x)) := by simp only [posK]; rw [if_neg hlt]
      have hnot : x ∉ ks := fun h => hlt (hs'.1 x h)
      rw [e, lookP_none ks os.tail x hnot]
      by_cases hx : x = k
      · subst hx
        cases os <;> simp
      · have hx' : ¬ k = x := fun h => hx h.symm
        simp [hx, hx']
theorem merge_facts : ∀ (ks : List Tk.Src) (os : List Ox) (out : Ox), Sorted out.keys → out.keys.length = out.kids.length → ks.length = os.length →
    Sorted (mergeL ks os out).keys ∧ (mergeL ks os out).keys.length = (mergeL ks os out).kids.length ∧ (mergeL ks os out).kind = out.kind ∧ (mergeL ks os out).int = out.int ∧ (mergeL ks os out).text = out.text ∧
      (∀ x, x ∈ (mergeL ks os out).keys ↔ x ∈ ks ∨ x ∈ out.keys) ∧ (∀ x, x ∈ (mergeL ks os out).kids → x ∈ os ∨ x ∈ out.kids) ∧
      ∀ x, look (mergeL ks os out) x = match lookP ks os x with | some v => some v | none => look out x
  | [], os, out, hs, hl, _ => ⟨hs, hl, rfl, rfl, rfl, fun x => by simp [mergeL], fun x h => .inr h, fun x => rfl⟩
  | k :: ks, [], out, hs, hl, h => by simp at h
  | k :: ks, o :: os, out, hs, hl, h => by
    have hp := pos_le out.keys k
    obtain ⟨h1, h2, h3, h4, h5, h6, h7, h8⟩ := merge_facts ks os (putD out k o) (put_sorted k o hs) (put_len k o hl) (by simpa using h)
    refine ⟨h1, h2, h3.trans (put_kind _ _ _), h4.trans ?_, h5.trans ?_, fun x => ?_, fun x hx => ?_, fun x => ?_⟩
    · unfold putD; split <;> rfl
    · unfold putD; split <;> rfl
    · show x ∈ (mergeL ks os (putD out k o)).keys ↔ _
      rw [h6 x, put_keys, List.mem_cons]
      constructor
      · rintro (h | h | h)
        · exact .inl (.inr h)
        · exact .inl (.inl h)
        · exact .inr h
      · rintro ((h | h) | h)
        · exact .inr (.inl h)
        · exact .inl h
        · exact .inr (.inr h)
    · rcases h7 x hx with h | h
      · exact .inl (List.mem_cons_of_mem _ h)
      · unfold putD at h
        split at h
        · rcases List.mem_or_eq_of_mem_set h with h | h
          · exact .inr h
          · exact .inl (by rw [h]; exact List.mem_cons_self)
        · rcases (List.mem_insertIdx (by omega)).1 h with h | h
          · exact .inl (by rw [h]; exact List.mem_cons_self)
          · exact .inr h
    · show look (mergeL ks os (putD out k o)) x = _
      rw [h8 x]
      simp only [lookP, List.tail_cons, List.headD_cons]
      cases lookP ks os x with
      | some v => rfl
      | none =>
        dsimp only
        rw [look_put hs hl]
        by_cases hx : x = k
        · rw [if_pos hx, if_pos hx]
        · rw [if_neg hx, if_neg hx]
/-! The same objects at another place of the file: what is printed, or too many. -/
theorem kids_shift {g : Ox → Nat → Except Int (List BTok × Nat)} (hg : ∀ o n l m n', g o n = .ok (l, m) → g o n' = .error 2 ∨ ∃ m', g o n' = .ok (l, m')) {dict : Bool} : ∀ (os : List Ox) (ks : List Tk.Src) (n' : Nat), (∀ o ∈ os, ∃ n l m, g o n = .ok (l, m)) →
    kidsF g dict ks os n' = .error 2 ∨ ∃ l m', kidsF g dict ks os n' = .ok (l, m')
  | [], ks, n', _ => .inr ⟨_, _, rfl⟩
  | o :: os, ks, n', h => by
    obtain ⟨n, l, m, h1⟩ := h o List.mem_cons_self
    rcases hg o n l m n' h1 with h2 | ⟨m1, h2⟩
    · left; simp only [kidsF, h2]
    · rcases kids_shift hg (dict := dict) os ks.tail m1 (fun o ho => h o (List.mem_cons_of_mem _ ho)) with h3 | ⟨l3, m3, h3⟩
      · left; simp only [kidsF, h2, h3]
      · exact .inr ⟨(if dict then [⟨2, 0, ks.headD []⟩] else []) ++ (l ++ l3), m3, by simp only [kidsF, h2, h3]⟩
theorem kids_oks {g : Ox → Nat → Except Int (List BTok × Nat)} {dict : Bool} : ∀ (os : List Ox) (ks : List Tk.Src) (n : Nat) (l : List BTok) (m : Nat), kidsF g dict ks os n = .ok (l, m) → ∀ o ∈ os, ∃ n l m, g o n = .ok (l, m)
  | [], _, _, _, _, _ => fun o h => by cases h
  | o :: os, ks, n, l, m, h => by
    obtain ⟨l1, n1, l2, h1, h2, _⟩ := kidsF_cons h
    intro x hx
    rcases List.mem_cons.1 hx with rfl | hx
    · exact ⟨n, l1, n1, h1⟩
    · exact kids_oks os ks.tail n1 l2 m h2 x hx
theorem kids_shift1 {g : Ox → Nat → Except Int (List BTok × Nat)} (hg : ∀ o n l m n', g o n = .ok (l, m) → g o n' = .error 2 ∨ ∃ m', g o n' = .ok (l, m')) {dict : Bool} : ∀ (os : List Ox) (ks : List Tk.Src) (n : Nat) (l : List BTok) (m n' : Nat), kidsF g dict ks os n = .ok (l, m) →
    kidsF g dict ks os n' = .error 2 ∨ ∃ m', kidsF g dict ks os n' = .ok (l, m')
  | [], ks, n, l, m, n', h => by cases h; exact .inr ⟨n', rfl⟩
  | o :: os, ks, n, l, m, n', h => by
    obtain ⟨l1, n1, l2, h1, h2, rfl⟩ := kidsF_cons h
    rcases hg o n l1 n1 n' h1 with h3 | ⟨m1, h3⟩
    · left; simp only [kidsF, h3]
    · rcases kids_shift1 hg (dict := dict) os ks.tail n1 l2 m m1 h2 with h4 | ⟨m4, h4⟩
      · left; simp only [kidsF, h3, h4]
      · right; exact ⟨m4, by simp only [kidsF, h3, h4]⟩
theorem add_shift : ∀ (f d : Nat) (o : Ox) (n : Nat) (l : List BTok) (m n' : Nat), addF f d o n = .ok (l, m) → addF f d o n' = .error 2 ∨ ∃ m', addF f d o n' = .ok (l, m')
  | 0, d, o, n, l, m, n', h => by cases h
  | f + 1, d, o, n, l, m, n', h => by
    obtain ⟨_, hn, hc⟩ := addF_cases h
    simp only [addF]
    by_cases h1 : 4096 < n' + 1
    · left; rw [if_pos h1]
    rw [if_neg h1, if_neg (by simp [hn])]
    rcases hc with ⟨hk, ht, rfl, _⟩ | ⟨hk, l2, hl, rfl⟩
    · right; rw [if_pos hk, if_neg (by simp [ht])]; exact ⟨_, rfl⟩
    · rw [if_neg (by omega)]
      rcases kids_shift1 (add_shift f (d + 1)) _ _ _ _ _ (n' + 1) hl with h3 | ⟨m3, h3⟩
      · left; rw [h3]
      · right; rw [h3]; exact ⟨m3, rfl⟩
theorem keysE_ok : ∀ (ks : List Tk.Src) (p : Option Tk.Src), (∀ k ∈ ks, nameE k = 0) → (∀ q, p = some q → ∀ k ∈ ks, ltB q k = true) → Sorted ks → keysE p ks = 0
  | [], p, _, _, _ => by cases p <;> rfl
  | k :: r, p, h1, h2, h3 => by
    have h3' := List.pairwise_cons.1 h3
    have hk := h1 k List.mem_cons_self
    have ih := keysE_ok r (some k) (fun x hx => h1 x (List.mem_cons_of_mem _ hx)) (fun q hq x hx => by cases hq; exact h3'.1 x hx) h3'.2
    simp only [keysE]
    rw [if_neg (by simp [hk]), ih]
    cases p with
    | none => simp
    | some q => simp [h2 q rfl k List.mem_cons_self]
theorem add_nested {f d n : Nat} {o : Ox} (h : ¬ 4096 < n + 1) (hn : nodeE o d = 0) (hk : ¬ o.kind < 6) : addF (f + 1) d o n = match kidsF (addF f (d + 1)) (decide (o.kind = 7)) o.keys o.kids (n + 1) with
      | .error e => .error e
      | .ok (l, n2) => .ok ([⟨if o.kind = 7 then 8 else 6, 0, []⟩] ++ l ++ [⟨if o.kind = 7 then 9 else 7, 0, []⟩], n2) := by
  simp only [addF]; rw [if_neg h, if_neg (by simp [hn]), if_neg hk]; rfl
/-- A dictionary of parts that can be printed can be printed, or is too large. -/
theorem dict_err {o : Ox} (h7 : o.kind = 7) (hi : o.int = 0) (ht : o.text = []) (hl : o.keys.length = o.kids.length) (hs : Sorted o.keys) (hn : ∀ k ∈ o.keys, nameE k = 0) (hk : ∀ x ∈ o.kids, ∃ n l m, addF 11 2 x n = .ok (l, m)) : checkO o = 0 ∨ checkO o = 2 := by
  have key : printO o = .error 2 ∨ ∃ s, printO o = .ok s := by
    by_cases hb : 256 < o.kids.length
    · left
      have hne : nodeE o 1 = 2 := by
        unfold nodeE
        dsimp only
        rw [if_neg (by omega), if_neg (by omega), if_neg (by simp [hi, ht, h7]), if_neg (by simp [h7, hl]), if_neg (by simp [h7]), if_pos hb]
      unfold printO
      have : addF 12 1 o 0 = .error 2 := by
        simp only [addF]
        rw [if_neg (by omega), hne, if_pos (by decide)]
      rw [this]
    · have hne : nodeE o 1 = 0 := by
        unfold nodeE
        dsimp only
        rw [if_neg (by omega), if_neg (by omega), if_neg (by simp [hi, ht, h7]), if_neg (by simp [h7, hl]), if_neg (by simp [h7]), if_neg hb]
        exact keysE_ok _ _ hn (fun q hq => by cases hq) hs
      have ha : addF 12 1 o 0 = .error 2 ∨ ∃ l m, addF 12 1 o 0 = .ok (l, m) := by
        rw [show (12 : Nat) = 11 + 1 from rfl, add_nested (by omega) hne (by omega)]
        rcases kids_shift (add_shift 11 2) (dict := decide (o.kind = 7)) o.kids o.keys (0 + 1) hk with h | ⟨l, m, h⟩
        · left; rw [h]
        · right; rw [h]; exact ⟨_, _, rfl⟩
      unfold printO
      rcases ha with h | ⟨l, m, h⟩
      · rw [h]; exact .inl rfl
      · rw [h]
        dsimp only
        split
        · exact .inl rfl
        · exact .inr ⟨_, rfl⟩
  unfold checkO
  rcases key with h | ⟨s, h⟩
  · rw [h]; exact .inr rfl
  · rw [h]; exact .inl rfl
/-- What Check knows of a dictionary. -/
theorem dict_parts {o : Ox} (h7 : o.kind = 7) (h : checkO o = 0) : o.int = 0 ∧ o.text = [] ∧ o.keys.length = o.kids.length ∧ Sorted o.keys ∧ (∀ k ∈ o.keys, nameE k = 0) ∧ ∀ x ∈ o.kids, ∃ n l m, addF 11 2 x n = .ok (l, m) := by
  obtain ⟨s, hp⟩ := check_zero h
  unfold printO at hp
  cases ha : addF 12 1 o 0 with
  | error e => rw [ha] at hp; cases hp
  | ok r =>
    obtain ⟨l, m⟩ := r
    obtain ⟨_, hn, hc⟩ := addF_cases ha
    obtain ⟨_, _, _, z1, z2, _, z3, _, _, _, z4⟩ := nodeE_zero hn
    obtain ⟨k1, _, k3⟩ := keysE_zero _ _ z4
    rcases hc with ⟨hk, _⟩ | ⟨_, l2, hl, _⟩
    · omega
    · refine ⟨?_, ?_, z3 h7, k3, k1, kids_oks _ _ _ _ _ hl⟩
      · by_cases e : o.int = 0
        · exact e
        · have := z1 e; omega
      · by_cases e : o.text = []
        · exact e
        · have := z2 e; omega
/-- The law of Merge. -/
theorem merge_law {a b : Ox} (ha : checkO a = 0) (hb : checkO b = 0) (h7 : a.kind = 7) (h7b : b.kind = 7) : (checkO (mergeL b.keys b.kids a) = 0 ∨ checkO (mergeL b.keys b.kids a) = 2) ∧
    (mergeL b.keys b.kids a).kind = 7 ∧ (∀ x, x ∈ (mergeL b.keys b.kids a).keys ↔ x ∈ b.keys ∨ x ∈ a.keys) ∧
    ∀ x, look (mergeL b.keys b.kids a) x = match look b x with | some v => some v | none => look a x := by
  obtain ⟨a1, a2, a3, a4, a5, a6⟩ := dict_parts h7 ha
  obtain ⟨b1, b2, b3, b4, b5, b6⟩ := dict_parts h7b hb
  obtain ⟨m1, m2, m3, m4, m5, m6, m7, m8⟩ := merge_facts b.keys b.kids a a4 a3 b3
  refine ⟨dict_err (m3.trans h7) (m4.trans a1) (m5.trans a2) m2 m1 (fun k hk => ?_) (fun x hx => ?_), m3.trans h7, m6, fun x => ?_⟩
  · rcases (m6 k).1 hk with h | h
    · exact b5 k h
    · exact a5 k h
  · rcases m7 x hx with h | h
    · exact b6 x h
    · exact a6 x h
  · rw [m8 x, lookP_look _ _ _ b4]
    rfl
end Go.Proofs.YthbdhijkdldmoaaGreatDoor
