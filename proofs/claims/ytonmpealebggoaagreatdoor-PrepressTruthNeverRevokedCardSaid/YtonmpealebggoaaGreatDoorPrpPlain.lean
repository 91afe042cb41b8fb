/- Rules for pages in plain words: what they are, their first error, their text, how a text is read, what facts tell of them. No program is in sight here. Words: what is written is read. No program is in sight here. What is written of a condition is read as the same condition. No program is in sight here. What is written of a condition is read as the same condition: and, or, not, parentheses. No program is in sight here. What is written of rules is read as the same rules. No program is in sight here. What facts tell: more facts never turn what is known; reasons. No program is in sight here. What the readers leave is not longer than what they get; what they read is in bounds. No program is in sight here. A text of rules that is cut off: what is read of it. No program is in sight here. A text of rules with more spaces, line feeds and parentheses: it is read as the same rules. No program is in sight here. -/
import Derived.Lib.ItoaNum
import Derived.Lib.AtoiAll
import Derived.Lib.AtoiAllCases
import Derived.Lib.Replace
import Derived.Lib.Repeat
import Derived.Lib.CountLaws
namespace Go.Proofs.YtonmpealebggoaaGreatDoor
namespace Pr
abbrev Src := List UInt8
def lowB (c : UInt8) : Bool := decide (97 ≤ c.toNat ∧ c.toNat ≤ 122)
def digB (c : UInt8) : Bool := decide (48 ≤ c.toNat ∧ c.toNat ≤ 57)
/-- A byte of a name behind the first one. -/
def nmB (c : UInt8) : Bool := lowB c || digB c || c == 45
def wRule : Src := [114, 117, 108, 101]
def wNot : Src := [110, 111, 116]
def wAnd : Src := [97, 110, 100]
def wOr : Src := [111, 114]
def plainB : Src → Bool
  | [] => false
  | c :: r => lowB c && r.all nmB && decide ((c :: r).length ≤ 16) && !(c :: r == wRule || c :: r == wNot || c :: r == wAnd || c :: r == wOr)
/-- A factor and a fact's name. -/
abbrev Tm := Int × Src
/-- A condition: its kind (0 a comparison, 1 not, 2 and, 3 or), terms, comparison, number, kids. -/
inductive Cd where
  | mk (kind : Int) (terms : List Tm) (cmp than : Int) (kids : List Cd)
def Cd.kind : Cd → Int | .mk k _ _ _ _ => k
def Cd.terms : Cd → List Tm | .mk _ t _ _ _ => t
def Cd.cmp : Cd → Int | .mk _ _ c _ _ => c
def Cd.than : Cd → Int | .mk _ _ _ n _ => n
def Cd.kids : Cd → List Cd | .mk _ _ _ _ ks => ks
abbrev Rl := Src × Cd
/-- The first error of a term behind others. -/
def termE (pre : List Tm) (t : Tm) : Int :=
  if t.1 = 0 ∨ t.1 < -1000 ∨ 1000 < t.1 then 3 else if plainB t.2 = false then 6 else if pre.any (fun x => x.2 == t.2) = true then 7 else 0
def termsE : List Tm → List Tm → Int
  | _, [] => 0
  | pre, t :: r => if termE pre t ≠ 0 then termE pre t else termsE (pre ++ [t]) r
/-- The first error of a comparison. -/
def compareE (c : Cd) : Int :=
  if 0 < c.kids.length then 4 else if c.terms.length = 0 then 8 else if 8 < c.terms.length then 2 else if c.cmp < 0 ∨ 5 < c.cmp then 14
  else if c.than < -2147483648 ∨ 2147483648 < c.than then 3 else termsE [] c.terms
/-- The first error of kids, and how many conditions were met. -/
def kidsF (g : Nat → Cd → Int × Nat) : Nat → List Cd → Int × Nat
  | n, [] => (0, n)
  | n, k :: r => if (g n k).1 ≠ 0 then g n k else kidsF g (g n k).2 r
/-- The first error of a condition at depth 13 - f, and how many conditions were met, n before. -/
def condF : Nat → Nat → Cd → Int × Nat
  | 0, n, _ => (if 256 < n + 1 then 2 else 15, n + 1)
  | f + 1, n, c =>
    if 256 < n + 1 then (2, n + 1)
    else if c.kind = 0 then (compareE c, n + 1)
    else if c.kind < 1 ∨ 3 < c.kind then (14, n + 1)
    else if 0 < c.terms.length ∨ c.cmp ≠ 0 ∨ c.than ≠ 0 ∨ (c.kids.length : Int) ≠ (if c.kind = 1 then 1 else 2) then (4, n + 1)
    else kidsF (condF f) (n + 1) c.kids
def lev (kind : Int) : Nat := if kind = 2 then 2 else if kind = 3 then 1 else 3
/-- A term's text: i terms stand before it. -/
def termS (i : Nat) (t : Tm) : Src :=
  (if 0 < i then (if t.1 < 0 then [32, 45, 32] else [32, 43, 32]) else if t.1 < 0 then [45] else []) ++ (if t.1.natAbs ≠ 1 then Lib.itoa t.1.natAbs ++ [32] else []) ++ t.2
def termsS : Nat → List Tm → Src
  | _, [] => []
  | i, t :: r => termS i t ++ termsS (i + 1) r
def opS (c : Int) : Src := if c = 0 then [60] else if c = 1 then [60, 61] else if c = 2 then [61] else if c = 3 then [33, 61] else if c = 4 then [62, 61] else [62]
def kid (c : Cd) (i : Nat) : Cd := c.kids.getD i (.mk 0 [] 0 0 [])
/-- A condition's text; f bounds the depth. -/
def showF : Nat → Cd → Nat → Src
  | 0, _, _ => []
  | f + 1, c, least =>
    let s := if c.kind = 0 then termsS 0 c.terms ++ ([32] ++ opS c.cmp ++ [32]) ++ Lib.itoa c.than
      else if c.kind = 1 then wNot ++ [32] ++ showF f (kid c 0) 3
      else if c.kind = 2 then showF f (kid c 0) 2 ++ ([32] ++ wAnd ++ [32]) ++ showF f (kid c 1) 3
      else showF f (kid c 0) 1 ++ ([32] ++ wOr ++ [32]) ++ showF f (kid c 1) 2
    if lev c.kind < least then [40] ++ s ++ [41] else s
/-- A rule's line. -/
def lineS (r : Rl) : Src := wRule ++ [32] ++ r.1 ++ [58, 32] ++ showF 12 r.2 0 ++ [59, 10]
def printS (l : List Rl) : Src := l.flatMap lineS
/-- The first error of a rule behind others. -/
def ruleE (pre : List Rl) (r : Rl) : Int :=
  if plainB r.1 = false then 6 else if pre.any (fun x => x.1 == r.1) = true then 7 else (condF 12 0 r.2).1
def rulesE : List Rl → List Rl → Int
  | _, [] => 0
  | pre, r :: l => if ruleE pre r ≠ 0 then ruleE pre r else rulesE (pre ++ [r]) l
/-- The first error of rules. -/
def checkE (l : List Rl) : Int := if 32 < l.length then 2 else if rulesE [] l ≠ 0 then rulesE [] l else if 4096 < (printS l).length then 2 else 0
/-! Reading. -/
def cls (c : UInt8) : Nat := if lowB c = true ∨ digB c = true then 1 else if c = 60 ∨ c = 62 ∨ c = 61 ∨ c = 33 then 2 else 0
def goesOn (k : Nat) (c : UInt8) : Bool := cls c == k || (k == 1 && c == 45)
def wsB (c : UInt8) : Bool := c == 32 || c == 10
/-- The rest behind spaces and line feeds. -/
def skipW : Src → Src
  | [] => []
  | c :: r => if wsB c = true then skipW r else c :: r
/-- How many bytes of a word stand behind its first one. -/
def runN (k : Nat) : Src → Nat
  | [] => 0
  | c :: r => if goesOn k c = true then runN k r + 1 else 0
/-- A word and what is behind it. -/
abbrev St := Src × Src
def wordF : Src → St
  | [] => ([], [])
  | c :: r => if cls c = 0 then ([c], r) else (c :: r.take (runN (cls c) r), r.drop (runN (cls c) r))
def lexW (l : Src) : St := wordF (skipW l)
def numV (most : Int) (w : Src) : Option Int :=
  match Lib.atoiAll w with
  | .ok n => if 0 ≤ n ∧ n ≤ most ∧ Lib.itoa n = w then some n else none
  | _ => none
def pSign (s : St) : Int × St := if s.1 = [45] then (-1, lexW s.2) else (1, s)
def pNum (most : Int) (s : St) : Option (Int × St) := match numV most s.1 with | some n => some (n, lexW s.2) | none => none
def pName (s : St) : Option (Src × St) := if plainB s.1 = true then some (s.1, lexW s.2) else none
def pWant (w : Src) (s : St) : Option St := if s.1 = w then some (lexW s.2) else none
/-- Whether a term begins with a number, as the parser tells it. -/
def numB (w : Src) : Bool := match w with | [] => false | c :: _ => decide (c.toNat ≤ 57)
def pTerm (sign : Int) (s : St) : Option (Tm × St) :=
  if numB s.1 = true then
    match pNum 1000 s with
    | none => none
    | some (n, s2) => match pName s2 with | none => none | some (nm, s3) => some ((sign * n, nm), s3)
  else match pName s with | none => none | some (nm, s3) => some ((sign, nm), s3)
/-- More terms; k bounds their number. -/
def pTerms : Nat → List Tm → St → Option (List Tm × St)
  | 0, _, _ => none
  | k + 1, l, s =>
    if s.1 = [43] ∨ s.1 = [45] then
      match pTerm (if s.1 = [45] then -1 else 1) (lexW s.2) with
      | none => none
      | some (t, s2) => pTerms k (l ++ [t]) s2
    else some (l, s)
def opV (w : Src) : Int := if w = [60] then 0 else if w = [60, 61] then 1 else if w = [61] then 2 else if w = [33, 61] then 3 else if w = [62, 61] then 4 else if w = [62] then 5 else -1
def pCompare (s : St) : Option (Cd × St) :=
  match pTerm (pSign s).1 (pSign s).2 with
  | none => none
  | some (t, s2) => match pTerms (s2.1.length + s2.2.length + 1) [t] s2 with
    | none => none
    | some (l, s3) => if opV s3.1 < 0 then none else
      match pNum 2147483648 (pSign (lexW s3.2)).2 with
      | none => none
      | some (n, s5) => some (.mk 0 l (opV s3.1) ((pSign (lexW s3.2)).1 * n) [], s5)
/-- Operands of one kind behind the first one; k bounds their number. -/
def pMore (g : St → Option (Cd × St)) (kind : Int) (kw : Src) : Nat → Cd → St → Option (Cd × St)
  | 0, _, _ => none
  | k + 1, c, s =>
    if s.1 = kw then match g (lexW s.2) with
      | none => none
      | some (d, s2) => pMore g kind kw k (.mk kind [] 0 0 [c, d]) s2
    else some (c, s)
def stLen (s : St) : Nat := s.1.length + s.2.length
/-- A condition of a level; f bounds the work. -/
def pCond : Nat → Nat → St → Option (Cd × St)
  | 0, _, _ => none
  | f + 1, least, s =>
    if 3 ≤ least then
      if s.1 = wNot then match pCond f 3 (lexW s.2) with | none => none | some (c, s2) => some (.mk 1 [] 0 0 [c], s2)
      else if s.1 = [40] then match pCond f 1 (lexW s.2) with
        | none => none
        | some (c, s2) => match pWant [41] s2 with | none => none | some s3 => some (c, s3)
      else pCompare s
    else match pCond f (least + 1) s with
      | none => none
      | some (c, s2) => pMore (pCond f (least + 1)) (if least = 2 then 2 else 3) (if least = 2 then wAnd else wOr) (stLen s2 + 1) c s2
/-- Work enough for what a state holds. -/
def workN (s : St) : Nat := 3 * stLen s + 4
def pRule (s : St) : Option (Rl × St) :=
  match pWant wRule s with
  | none => none
  | some s1 => match pName s1 with
    | none => none
    | some (nm, s2) => match pWant [58] s2 with
      | none => none
      | some s3 => match pCond (workN s3) 1 s3 with
        | none => none
        | some (c, s4) => if s4.1 = [59] then some ((nm, c), lexW s4.2) else none
/-- Rules; k bounds their number. -/
def pRules : Nat → List Rl → St → Option (List Rl)
  | 0, _, _ => none
  | k + 1, l, s => if s.1 = [] then some l else match pRule s with
    | none => none
    | some (r, s2) => pRules k (l ++ [r]) s2
/-- What Parse answers: rules, or an error (of syntax, none). -/
def parseS (s : Src) : Option (List Rl) := pRules (s.length + 1) [] (lexW s)
/-! Truth. -/
abbrev Ft := Src × Int
/-- A fact's value. -/
def factV (l : List Ft) (nm : Src) : Option Int := (l.find? fun x => x.1 == nm).map (·.2)
def sumV (l : List Ft) : List Tm → Int → Option Int
  | [], a => some a
  | t :: r, a => match factV l t.2 with | none => none | some v => sumV l r (a + t.1 * v)
def cmpB (op x y : Int) : Bool := if op = 0 then decide (x < y) else if op = 1 then decide (x ≤ y) else if op = 2 then decide (x = y) else if op = 3 then decide (x ≠ y) else if op = 4 then decide (x ≥ y) else decide (x > y)
/-- What facts tell of a condition: 0 false, 1 true, 2 open; f bounds the depth. -/
def truthF : Nat → List Ft → Cd → Int
  | 0, _, _ => 0
  | f + 1, l, c =>
    if c.kind = 1 then (if truthF f l (kid c 0) = 0 then 1 else if truthF f l (kid c 0) = 1 then 0 else 2)
    else if c.kind = 2 ∨ c.kind = 3 then
      let strong : Int := if c.kind = 3 then 1 else 0
      let a := truthF f l (kid c 0)
      let b := truthF f l (kid c 1)
      if a = strong ∨ b = strong then strong else if a = 2 ∨ b = 2 then 2 else a
    else match sumV l c.terms 0 with
      | none => 2
      | some x => if cmpB c.cmp x c.than = true then 1 else 0
/-- The order of strings. -/
def ltB : Src → Src → Bool
  | [], [] => false
  | [], _ :: _ => true
  | _ :: _, [] => false
  | a :: r, b :: s => if a < b then true else if b < a then false else ltB r s
def factE (pre : Option Ft) (x : Ft) : Int :=
  if plainB x.1 = false then 6 else if x.2 < -2147483648 ∨ 2147483648 < x.2 then 3 else match pre with
    | some y => if ltB y.1 x.1 = true then 0 else 18
    | none => 0
def factsF : Option Ft → List Ft → Int
  | _, [] => 0
  | pre, x :: r => if factE pre x ≠ 0 then factE pre x else factsF (some x) r
/-- The first error of facts. -/
def factsE (l : List Ft) : Int := if 64 < l.length then 2 else factsF none l
end Pr
end Go.Proofs.YtonmpealebggoaaGreatDoor
namespace Go.Proofs.YtonmpealebggoaaGreatDoor
namespace Pr
theorem skipW_le : ∀ l : Src, (skipW l).length ≤ l.length
  | [] => Nat.le_refl _
  | c :: r => by
    simp only [skipW]
    split
    · exact Nat.le_trans (skipW_le r) (by simp)
    · exact Nat.le_refl _
theorem runN_le (k : Nat) : ∀ l : Src, runN k l ≤ l.length
  | [] => Nat.le_refl _
  | c :: r => by
    have := runN_le k r
    simp only [runN]
    split
    · simp; omega
    · exact Nat.zero_le _
theorem wordF_len (l : Src) : stLen (wordF l) = l.length := by
  cases l with
  | nil => rfl
  | cons c r =>
    have := runN_le (cls c) r
    simp only [wordF]
    split
    · simp [stLen]; omega
    · simp [stLen]; omega
theorem wordF_eq (l : Src) : (wordF l).1 ++ (wordF l).2 = l := by
  cases l with
  | nil => rfl
  | cons c r =>
    simp only [wordF]
    split
    · rfl
    · simp
theorem lexW_len (l : Src) : stLen (lexW l) ≤ l.length := by unfold lexW; rw [wordF_len]; exact skipW_le l
theorem wordF_ne {l : Src} (h : l ≠ []) : (wordF l).1 ≠ [] := by
  cases l with
  | nil => exact absurd rfl h
  | cons c r => simp only [wordF]; split <;> simp
theorem lexW_nil : lexW [] = ([], []) := rfl
theorem lexW_ws {c : UInt8} (h : wsB c = true) (r : Src) : lexW (c :: r) = lexW r := by unfold lexW; rw [skipW, if_pos h]
theorem lexW_sp (r : Src) : lexW (32 :: r) = lexW r := lexW_ws rfl r
theorem lexW_lf (r : Src) : lexW (10 :: r) = lexW r := lexW_ws rfl r
/-- A word ends ahead of this. -/
def endsB (k : Nat) (t : Src) : Prop := ∀ c r, t = c :: r → goesOn k c = false
theorem runN_all {k : Nat} : ∀ {w : Src} {t : Src}, w.all (goesOn k) = true → endsB k t → runN k (w ++ t) = w.length
  | [], t, _, ht => by
    cases t with
    | nil => rfl
    | cons c r => simp only [List.nil_append, runN]; rw [if_neg (by rw [ht c r rfl]; simp)]; rfl
  | c :: w, t, h, ht => by
    rw [List.all_cons, Bool.and_eq_true] at h
    simp only [List.cons_append, runN]
    rw [if_pos h.1, runN_all h.2 ht]
    rfl
theorem lexW_word {c : UInt8} {w t : Src} (hk : cls c ≠ 0) (hs : wsB c = false) (h : w.all (goesOn (cls c)) = true) (ht : endsB (cls c) t) : lexW (c :: w ++ t) = (c :: w, t) := by
  unfold lexW
  rw [List.cons_append, skipW, if_neg (by rw [hs]; simp)]
  simp only [wordF]
  rw [if_neg hk, runN_all h ht, List.take_left, List.drop_left]
theorem lexW_one {c : UInt8} {t : Src} (hk : cls c = 0) (hs : wsB c = false) : lexW (c :: t) = ([c], t) := by
  unfold lexW
  rw [skipW, if_neg (by rw [hs]; simp)]
  simp only [wordF]
  rw [if_pos hk]
theorem low_cls {c : UInt8} (h : lowB c = true) : cls c = 1 := by unfold cls; rw [if_pos (.inl h)]
theorem dig_cls {c : UInt8} (h : digB c = true) : cls c = 1 := by unfold cls; rw [if_pos (.inr h)]
theorem nm_goes {c : UInt8} (h : nmB c = true) : goesOn 1 c = true := by
  unfold nmB at h
  unfold goesOn
  rw [Bool.or_eq_true, Bool.or_eq_true] at h
  rcases h with (h | h) | h
  · rw [low_cls h]; rfl
  · rw [dig_cls h]; rfl
  · rw [h]; simp
theorem cls1_ws {c : UInt8} (h : lowB c = true ∨ digB c = true) : wsB c = false := by
  unfold wsB
  rw [Bool.or_eq_false_iff]
  simp only [lowB, digB, decide_eq_true_eq] at h
  constructor
  · rw [beq_eq_false_iff_ne]; rintro rfl; rcases h with h | h <;> revert h <;> decide
  · rw [beq_eq_false_iff_ne]; rintro rfl; rcases h with h | h <;> revert h <;> decide
/-- What ends a name or a number. -/
def goodT (t : Src) : Prop := endsB 1 t
theorem good_sp (r : Src) : goodT (32 :: r) := fun c r' e => by injection e with e _; subst e; rfl
theorem good_nil : goodT [] := fun c r e => by cases e
theorem good_cons {c : UInt8} (r : Src) (h : goesOn 1 c = false) : goodT (c :: r) := fun c' r' e => by injection e with e _; subst e; exact h
theorem plain_parts {s : Src} (h : plainB s = true) : ∃ c r, s = c :: r ∧ lowB c = true ∧ r.all nmB = true ∧ s.length ≤ 16 ∧ s ≠ wRule ∧ s ≠ wNot ∧ s ≠ wAnd ∧ s ≠ wOr := by
  cases s with
  | nil => simp [plainB] at h
  | cons c r =>
    simp only [plainB, Bool.and_eq_true, Bool.not_eq_true', Bool.or_eq_false_iff, beq_eq_false_iff_ne, decide_eq_true_eq] at h
    obtain ⟨⟨⟨h1, h2⟩, h3⟩, ⟨⟨h4, h5⟩, h6⟩, h7⟩ := h
    exact ⟨c, r, rfl, h1, h2, h3, h4, h5, h6, h7⟩
theorem lexW_name {s t : Src} (h : plainB s = true) (ht : goodT t) : lexW (s ++ t) = (s, t) := by
  obtain ⟨c, r, rfl, h1, h2, _⟩ := plain_parts h
  have hc := low_cls h1
  refine lexW_word (by rw [hc]; decide) (cls1_ws (.inl h1)) ?_ (by rw [hc]; exact ht)
  rw [hc, List.all_eq_true]
  intro x hx
  exact nm_goes (List.all_eq_true.1 h2 x hx)
theorem name_num {s : Src} (h : plainB s = true) : numB s = false := by
  obtain ⟨c, r, rfl, h1, _⟩ := plain_parts h
  simp only [lowB, decide_eq_true_eq] at h1
  simp only [numB, decide_eq_false_iff_not]
  omega
/-! Numerals. -/
theorem dec_digits (u : Nat) : ∃ c r, Lib.decDigits u = c :: r ∧ (c :: r).all digB = true := by
  induction u using Nat.strongRecOn with
  | ind u ih =>
    rw [Lib.decDigits]
    by_cases h : u < 10
    · rw [dif_pos h]
      refine ⟨_, _, rfl, ?_⟩
      have : (UInt8.ofNat (48 + u)).toNat = 48 + u := by rw [UInt8.toNat_ofNat']; omega
      simp only [List.all_cons, List.all_nil, Bool.and_true, digB, this, decide_eq_true_eq]
      omega
    · rw [dif_neg h]
      obtain ⟨c, r, e, ha⟩ := ih (u / 10) (by omega)
      refine ⟨c, r ++ [UInt8.ofNat (48 + u % 10)], by rw [e]; rfl, ?_⟩
      have : (UInt8.ofNat (48 + u % 10)).toNat = 48 + u % 10 := by rw [UInt8.toNat_ofNat']; omega
      rw [← List.cons_append, List.all_append, ha, Bool.true_and]
      simp only [List.all_cons, List.all_nil, Bool.and_true, digB, this, decide_eq_true_eq]
      omega
theorem dig_goes {c : UInt8} (h : digB c = true) : goesOn 1 c = true := by unfold goesOn; rw [dig_cls h]; rfl
theorem lexW_dec (u : Nat) {t : Src} (ht : goodT t) : lexW (Lib.decDigits u ++ t) = (Lib.decDigits u, t) := by
  obtain ⟨c, r, e, ha⟩ := dec_digits u
  rw [List.all_cons, Bool.and_eq_true] at ha
  rw [e]
  have hc := dig_cls ha.1
  refine lexW_word (by rw [hc]; decide) (cls1_ws (.inr ha.1)) ?_ (by rw [hc]; exact ht)
  rw [hc, List.all_eq_true]
  intro x hx
  exact dig_goes (List.all_eq_true.1 ha.2 x hx)
theorem parse_dec (u : Nat) (hu : u ≤ 1000000000000) : ∀ t : Src, Lib.parseUint10 0 (Lib.decDigits u ++ t) = Lib.parseUint10 u t := by
  induction u using Nat.strongRecOn with
  | ind u ih =>
    intro t
    rw [Lib.decDigits]
    by_cases h : u < 10
    · rw [dif_pos h]
      have : (UInt8.ofNat (48 + u)).toNat = 48 + u := by rw [UInt8.toNat_ofNat']; omega
      simp only [List.cons_append, List.nil_append, Lib.parseUint10, this]
      rw [if_pos (by omega), if_neg (by omega), if_neg (by omega)]
      congr 1; omega
    · rw [dif_neg h]
      have : (UInt8.ofNat (48 + u % 10)).toNat = 48 + u % 10 := by rw [UInt8.toNat_ofNat']; omega
      rw [List.append_assoc, ih (u / 10) (by omega) (by omega)]
      simp only [List.cons_append, List.nil_append, Lib.parseUint10, this]
      rw [if_pos (by omega), if_neg (by omega), if_neg (by omega)]
      congr 1; omega
theorem itoa_nat (u : Nat) : Lib.itoa (u : Int) = Lib.decDigits u := by unfold Lib.itoa; rw [if_neg (by omega)]; rfl
theorem atoi_dec (u : Nat) (hu : u ≤ 1000000000000) : Lib.atoiAll (Lib.decDigits u) = .ok (u : Int) := by
  obtain ⟨c, r, e, ha⟩ := dec_digits u
  rw [List.all_cons, Bool.and_eq_true] at ha
  have hc : 48 ≤ c.toNat ∧ c.toNat ≤ 57 := by simpa [digB] using ha.1
  have hp := parse_dec u hu []
  rw [List.append_nil, e] at hp
  rw [e, Lib.atoiAll_plain c r (by omega) (by omega)]
  unfold Lib.parseMag
  rw [if_neg (by simp), hp]
  show Lib.signless (.ok u) = _
  unfold Lib.signless
  simp
  omega
theorem numV_dec (u : Nat) (most : Int) (h : (u : Int) ≤ most) (hm : most ≤ 1000000000000) : numV most (Lib.itoa (u : Int)) = some (u : Int) := by
  unfold numV
  rw [itoa_nat, atoi_dec u (by omega)]
  dsimp only
  rw [if_pos ⟨by omega, h, itoa_nat u⟩]
theorem lexW_itoa (u : Nat) {t : Src} (ht : goodT t) : lexW (Lib.itoa (u : Int) ++ t) = (Lib.itoa (u : Int), t) := by rw [itoa_nat]; exact lexW_dec u ht
theorem numB_itoa (u : Nat) : numB (Lib.itoa (u : Int)) = true := by
  obtain ⟨c, r, e, ha⟩ := dec_digits u
  rw [List.all_cons, Bool.and_eq_true] at ha
  rw [itoa_nat, e]
  have := ha.1
  simp only [digB, decide_eq_true_eq] at this
  simp only [numB, decide_eq_true_eq]
  omega
end Pr
end Go.Proofs.YtonmpealebggoaaGreatDoor
namespace Go.Proofs.YtonmpealebggoaaGreatDoor
namespace Pr
/-- A condition without an error, of depth f at most. -/
def VC : Nat → Cd → Prop
  | 0, _ => False
  | f + 1, c => (c.kind = 0 ∧ compareE c = 0) ∨ (c.kind = 1 ∧ ∃ a, c = .mk 1 [] 0 0 [a] ∧ VC f a) ∨ ((c.kind = 2 ∨ c.kind = 3) ∧ ∃ a b, c = .mk c.kind [] 0 0 [a, b] ∧ VC f a ∧ VC f b)
theorem kids_zero {g : Nat → Cd → Int × Nat} : ∀ {n : Nat} {l : List Cd}, (kidsF g n l).1 = 0 → ∀ c ∈ l, ∃ m, (g m c).1 = 0
  | n, [], _, c, hc => by cases hc
  | n, k :: r, h, c, hc => by
    simp only [kidsF] at h
    by_cases e : (g n k).1 ≠ 0
    · rw [if_pos e] at h; exact absurd h e
    · rw [if_neg e] at h
      rcases List.mem_cons.1 hc with rfl | hc
      · exact ⟨n, by simpa using e⟩
      · exact kids_zero h c hc
theorem cond_valid : ∀ (f n : Nat) (c : Cd), (condF f n c).1 = 0 → VC f c
  | 0, n, c, h => by
    simp only [condF] at h
    split at h <;> simp at h
  | f + 1, n, c, h => by
    simp only [condF] at h
    by_cases g1 : 256 < n + 1
    · rw [if_pos g1] at h; simp at h
    rw [if_neg g1] at h
    by_cases h0 : c.kind = 0
    · rw [if_pos h0] at h
      exact .inl ⟨h0, h⟩
    rw [if_neg h0] at h
    by_cases h2 : c.kind < 1 ∨ 3 < c.kind
    · rw [if_pos h2] at h; simp at h
    rw [if_neg h2] at h
    by_cases h3 : 0 < c.terms.length ∨ c.cmp ≠ 0 ∨ c.than ≠ 0 ∨ (c.kids.length : Int) ≠ (if c.kind = 1 then 1 else 2)
    · rw [if_pos h3] at h; simp at h
    rw [if_neg h3] at h
    have hl1 : c.kind = 1 → c.kids.length = 1 := fun e => by rw [if_pos e] at h3; omega
    have hl2 : c.kind ≠ 1 → c.kids.length = 2 := fun e => by rw [if_neg e] at h3; omega
    have hz : c.terms.length = 0 ∧ c.cmp = 0 ∧ c.than = 0 := by omega
    clear h3
    obtain ⟨k, ts, cm, th, ks⟩ := c
    simp only [Cd.kind, Cd.terms, Cd.cmp, Cd.than, Cd.kids] at *
    have e1 : ts = [] := List.eq_nil_of_length_eq_zero (by omega)
    have e2 : cm = 0 := by omega
    have e3 : th = 0 := by omega
    subst e1 e2 e3
    have hv : ∀ a ∈ ks, VC f a := fun a ha => by obtain ⟨m, hm⟩ := kids_zero h a ha; exact cond_valid f m a hm
    by_cases k1 : k = 1
    · subst k1
      have hl := hl1 rfl
      match ks, hl, hv with
      | [a], _, hv => exact .inr (.inl ⟨rfl, a, rfl, hv a (by simp)⟩)
    · have hl := hl2 k1
      match ks, hl, hv with
      | [a, b], _, hv => exact .inr (.inr ⟨by simp [Cd.kind]; omega, a, b, rfl, hv a (by simp), hv b (by simp)⟩)
/-! Comparisons. -/
structure TmOk (t : Tm) : Prop where
  lo : -1000 ≤ t.1
  hi : t.1 ≤ 1000
  ne : t.1 ≠ 0
  nm : plainB t.2 = true
theorem terms_ok : ∀ {pre l : List Tm}, termsE pre l = 0 → ∀ t ∈ l, TmOk t
  | _, [], _, t, ht => by cases ht
  | pre, x :: r, h, t, ht => by
    simp only [termsE] at h
    by_cases e : termE pre x ≠ 0
    · rw [if_pos e] at h; exact absurd h e
    · rw [if_neg e] at h
      rcases List.mem_cons.1 ht with rfl | ht
      · have e : termE pre t = 0 := by simpa using e
        unfold termE at e
        split at e
        · simp at e
        split at e
        · simp at e
        rename_i h1 h2
        exact ⟨by omega, by omega, by omega, by simpa using h2⟩
      · exact terms_ok h t ht
/-- A number and a name, as a term has them behind its sign. -/
def bodyS (t : Tm) : Src := (if t.1.natAbs ≠ 1 then Lib.itoa (t.1.natAbs : Int) ++ [32] else []) ++ t.2
theorem pTerm_body {t : Tm} (h : TmOk t) {r : Src} (hr : goodT r) (sign : Int) (hs : sign * t.1.natAbs = t.1) (hs1 : t.1.natAbs = 1 → sign = t.1) :
    pTerm sign (lexW (bodyS t ++ r)) = some (t, lexW r) := by
  unfold bodyS
  by_cases h1 : t.1.natAbs ≠ 1
  · rw [if_pos h1, List.append_assoc, List.append_assoc, List.cons_append, List.nil_append, lexW_itoa _ (good_sp _)]
    unfold pTerm
    dsimp only
    rw [if_pos (numB_itoa _)]
    unfold pNum
    dsimp only
    rw [numV_dec _ 1000 (by have := h.lo; have := h.hi; omega) (by omega)]
    dsimp only
    show (match pName (lexW (32 :: (t.2 ++ r))) with | none => none | some (nm, s3) => some ((sign * (t.1.natAbs : Int), nm), s3)) = _
    rw [lexW_sp, lexW_name h.nm hr]
    unfold pName
    dsimp only
    rw [if_pos h.nm, hs]
  · rw [if_neg h1, List.nil_append, lexW_name h.nm hr]
    unfold pTerm
    dsimp only
    rw [if_neg (by rw [name_num h.nm]; simp)]
    unfold pName
    dsimp only
    rw [if_pos h.nm, hs1 (by omega)]
theorem termS_body (i : Nat) (t : Tm) : termS i t = (if 0 < i then (if t.1 < 0 then [32, 45, 32] else [32, 43, 32]) else if t.1 < 0 then [45] else []) ++ bodyS t := by
  unfold termS bodyS; rw [List.append_assoc]
theorem lexW_plus (r : Src) : lexW (43 :: r) = ([43], r) := lexW_one rfl rfl
theorem lexW_minus (r : Src) : lexW (45 :: r) = ([45], r) := lexW_one rfl rfl
theorem body_first {t : Tm} (h : TmOk t) {r : Src} (hr : goodT r) : (lexW (bodyS t ++ r)).1 ≠ [45] ∧ (lexW (bodyS t ++ r)).1 ≠ wNot ∧ (lexW (bodyS t ++ r)).1 ≠ [40] := by
  unfold bodyS
  by_cases h1 : t.1.natAbs ≠ 1
  · rw [if_pos h1, List.append_assoc, List.append_assoc, List.cons_append, List.nil_append, lexW_itoa _ (good_sp _)]
    have hn := numB_itoa t.1.natAbs
    obtain ⟨c, q, e, ha⟩ := dec_digits t.1.natAbs
    rw [List.all_cons, Bool.and_eq_true] at ha
    have hc : 48 ≤ c.toNat ∧ c.toNat ≤ 57 := by simpa [digB] using ha.1
    rw [itoa_nat, e]
    refine ⟨fun e => ?_, fun e => ?_, fun e => ?_⟩
    · injection e with e _; subst e; revert hc; decide
    · injection e with e _; subst e; revert hc; decide
    · injection e with e _; subst e; revert hc; decide
  · rw [if_neg h1, List.nil_append, lexW_name h.nm hr]
    obtain ⟨c, q, e, h2, _, _, _, h3, _⟩ := plain_parts h.nm
    refine ⟨fun e' => ?_, h3, fun e' => ?_⟩
    · rw [e] at e'; injection e' with e' _; subst e'; revert h2; decide
    · rw [e] at e'; injection e' with e' _; subst e'; revert h2; decide
theorem goodT_terms : ∀ (l : List Tm) (i : Nat) {r : Src}, 0 < i → goodT r → goodT (termsS i l ++ r)
  | [], i, r, _, hr => hr
  | t :: l, i, r, hi, hr => by
    simp only [termsS]
    rw [termS_body, if_pos hi]
    split <;> exact good_sp _
theorem pTerms_read : ∀ (l : List Tm) (i : Nat), 0 < i → (∀ t ∈ l, TmOk t) → ∀ (r : Src), goodT r → ∀ (k : Nat) (acc : List Tm), pTerms (k + l.length) acc (lexW (termsS i l ++ r)) = pTerms k (acc ++ l) (lexW r)
  | [], i, _, _, r, _, k, acc => by simp [termsS]
  | t :: l, i, hi, h, r, hr, k, acc => by
    have ht := h t (by simp)
    have hl := pTerms_read l (i + 1) (by omega) (fun x hx => h x (by simp [hx])) r hr k (acc ++ [t])
    have hg := goodT_terms l (i + 1) (r := r) (by omega) hr
    simp only [termsS]
    rw [termS_body, if_pos hi, List.length_cons, ← Nat.add_assoc]
    by_cases hn : t.1 < 0
    · rw [if_pos hn]
      show pTerms (k + l.length + 1) acc (lexW (32 :: 45 :: 32 :: (bodyS t ++ termsS (i + 1) l) ++ r)) = _
      rw [List.cons_append, List.cons_append, List.cons_append, lexW_sp, lexW_minus, List.append_assoc]
      simp only [pTerms]
      rw [if_pos (by simp), if_pos trivial, lexW_sp, pTerm_body ht hg (-1) (by omega) (fun _ => by omega)]
      dsimp only
      rw [hl, List.append_assoc]; rfl
    · rw [if_neg hn]
      show pTerms (k + l.length + 1) acc (lexW (32 :: 43 :: 32 :: (bodyS t ++ termsS (i + 1) l) ++ r)) = _
      rw [List.cons_append, List.cons_append, List.cons_append, lexW_sp, lexW_plus, List.append_assoc]
      simp only [pTerms]
      rw [if_pos (by simp), if_neg (by decide), lexW_sp, pTerm_body ht hg 1 (by omega) (fun _ => by omega)]
      dsimp only
      rw [hl, List.append_assoc]; rfl
theorem op_lex (c : Int) (r : Src) (h0 : 0 ≤ c) (h5 : c ≤ 5) : lexW (opS c ++ (32 :: r)) = (opS c, 32 :: r) ∧ opV (opS c) = c ∧ opS c ≠ [43] ∧ opS c ≠ [45] := by
  have e2 : endsB 2 (32 :: r) := fun c r' e => by injection e with e _; subst e; rfl
  have : c = 0 ∨ c = 1 ∨ c = 2 ∨ c = 3 ∨ c = 4 ∨ c = 5 := by omega
  rcases this with rfl | rfl | rfl | rfl | rfl | rfl
  · exact ⟨lexW_word (c := 60) (w := []) (by decide) rfl rfl e2, rfl, by decide, by decide⟩
  · exact ⟨lexW_word (c := 60) (w := [61]) (by decide) rfl rfl e2, rfl, by decide, by decide⟩
  · exact ⟨lexW_word (c := 61) (w := []) (by decide) rfl rfl e2, rfl, by decide, by decide⟩
  · exact ⟨lexW_word (c := 33) (w := [61]) (by decide) rfl rfl e2, rfl, by decide, by decide⟩
  · exact ⟨lexW_word (c := 62) (w := [61]) (by decide) rfl rfl e2, rfl, by decide, by decide⟩
  · exact ⟨lexW_word (c := 62) (w := []) (by decide) rfl rfl e2, rfl, by decide, by decide⟩
theorem than_read (n : Int) (h1 : -2147483648 ≤ n) (h2 : n ≤ 2147483648) {r : Src} (hr : goodT r) : ∃ m, pNum 2147483648 (pSign (lexW (Lib.itoa n ++ r))).2 = some (m, lexW r) ∧ (pSign (lexW (Lib.itoa n ++ r))).1 * m = n := by
  by_cases hn : n < 0
  · have e : Lib.itoa n = 45 :: Lib.itoa (n.natAbs : Int) := by rw [itoa_nat]; unfold Lib.itoa; rw [if_pos hn]
    rw [e, List.cons_append, lexW_minus]
    unfold pSign
    rw [if_pos rfl]
    dsimp only
    rw [lexW_itoa _ hr]
    unfold pNum
    dsimp only
    rw [numV_dec _ _ (by omega) (by omega)]
    exact ⟨_, rfl, by omega⟩
  · obtain ⟨u, rfl⟩ : ∃ u : Nat, n = u := ⟨n.toNat, by omega⟩
    rw [lexW_itoa _ hr]
    have hne : Lib.itoa (u : Int) ≠ [45] := by
      obtain ⟨c, q, e, ha⟩ := dec_digits u
      rw [List.all_cons, Bool.and_eq_true] at ha
      have hc : 48 ≤ c.toNat ∧ c.toNat ≤ 57 := by simpa [digB] using ha.1
      rw [itoa_nat, e]
      intro e; injection e with e _; subst e; revert hc; decide
    unfold pSign
    dsimp only
    rw [if_neg hne]
    unfold pNum
    dsimp only
    rw [numV_dec _ _ (by omega) (by omega)]
    exact ⟨_, rfl, by omega⟩
/-- A comparison's text. -/
def cmpS (c : Cd) : Src := termsS 0 c.terms ++ ([32] ++ opS c.cmp ++ [32]) ++ Lib.itoa c.than
theorem compare_parts {c : Cd} (h : compareE c = 0) : c.kids = [] ∧ c.terms ≠ [] ∧ 0 ≤ c.cmp ∧ c.cmp ≤ 5 ∧ -2147483648 ≤ c.than ∧ c.than ≤ 2147483648 ∧ (∀ t ∈ c.terms, TmOk t) ∧ c.terms.length ≤ 8 := by
  unfold compareE at h
  split at h
  · simp at h
  split at h
  · simp at h
  split at h
  · simp at h
  split at h
  · simp at h
  split at h
  · simp at h
  rename_i h1 h2 h3 h4 h5
  exact ⟨List.eq_nil_of_length_eq_zero (by omega), fun e => h2 (by rw [e]; rfl), by omega, by omega, by omega, by omega, terms_ok h, by omega⟩
theorem compare_read {c : Cd} (hk : c.kind = 0) (h : compareE c = 0) {r : Src} (hr : goodT r) : pCompare (lexW (cmpS c ++ r)) = some (c, lexW r) ∧ (lexW (cmpS c ++ r)).1 ≠ wNot ∧ (lexW (cmpS c ++ r)).1 ≠ [40] := by
  obtain ⟨a1, a2, a3, a4, a5, a6, a7, a8⟩ := compare_parts h
  obtain ⟨k, ts, cm, th, ks⟩ := c
  simp only [Cd.kind, Cd.terms, Cd.cmp, Cd.than, Cd.kids] at *
  subst hk a1
  cases ts with
  | nil => exact absurd rfl a2
  | cons t l =>
    have ht := a7 t (by simp)
    have hl : ∀ x ∈ l, TmOk x := fun x hx => a7 x (by simp [hx])
    obtain ⟨o1, o2, o3, o4⟩ := op_lex cm (Lib.itoa th ++ r) a3 a4
    obtain ⟨m, n1, n2⟩ := than_read th a5 a6 hr
    have htx : cmpS (.mk 0 (t :: l) cm th []) ++ r = (if t.1 < 0 then [45] else []) ++ (bodyS t ++ (termsS 1 l ++ (32 :: (opS cm ++ (32 :: (Lib.itoa th ++ r)))))) := by
      simp only [cmpS, Cd.terms, Cd.cmp, Cd.than, termsS, termS_body, List.append_assoc, List.cons_append, List.nil_append]
      rw [if_neg (by omega)]
    generalize hX : (32 :: (opS cm ++ (32 :: (Lib.itoa th ++ r))) : Src) = X at *
    have hgX : goodT X := by rw [← hX]; exact good_sp _
    have hg1 := goodT_terms l 1 (by omega) hgX
    have hlX : lexW X = (opS cm, 32 :: (Lib.itoa th ++ r)) := by rw [← hX, lexW_sp, o1]
    have hsg : pSign (lexW (cmpS (.mk 0 (t :: l) cm th []) ++ r)) = (if t.1 < 0 then -1 else 1, lexW (bodyS t ++ (termsS 1 l ++ X))) ∧ (lexW (cmpS (.mk 0 (t :: l) cm th []) ++ r)).1 ≠ wNot ∧ (lexW (cmpS (.mk 0 (t :: l) cm th []) ++ r)).1 ≠ [40] := by
      obtain ⟨b1, b2, b3⟩ := body_first ht hg1
      rw [htx]
      by_cases hn : t.1 < 0
      · rw [if_pos hn, if_pos hn, List.cons_append, List.nil_append, lexW_minus]
        exact ⟨by unfold pSign; rw [if_pos rfl], (by decide : ([45] : Src) ≠ wNot), (by decide : ([45] : Src) ≠ [40])⟩
      · rw [if_neg hn, if_neg hn, List.nil_append]
        exact ⟨by unfold pSign; rw [if_neg b1], b2, b3⟩
    refine ⟨?_, hsg.2⟩
    unfold pCompare
    rw [hsg.1]
    dsimp only
    rw [pTerm_body ht hg1 (if t.1 < 0 then -1 else 1) (by split <;> omega) (fun _ => by split <;> omega)]
    dsimp only
    have hlen : l.length + 1 ≤ (lexW (termsS 1 l ++ X)).1.length + (lexW (termsS 1 l ++ X)).2.length + 1 := by
      have : ∀ (l : List Tm) (i : Nat), 0 < i → (∀ x ∈ l, TmOk x) → l.length ≤ stLen (lexW (termsS i l ++ X)) := by
        intro l
        induction l with
        | nil => intro i _ _; simp
        | cons x l ih =>
          intro i hi hx
          have h1 := hx x (by simp)
          simp only [termsS, termS_body]
          rw [if_pos hi]
          have h3 : ∀ s : Src, stLen (lexW s) ≤ s.length := lexW_len
          have h4 := ih (i + 1) (by omega) (fun y hy => hx y (by simp [hy]))
          have h5 := lexW_len (termsS (i + 1) l ++ X)
          split
          · show _ ≤ stLen (lexW (32 :: 45 :: 32 :: (bodyS x ++ termsS (i + 1) l) ++ X))
            rw [List.cons_append, List.cons_append, List.cons_append, lexW_sp, lexW_minus]
            simp only [stLen, List.length_cons, List.length_append, List.length_nil] at h4 h5 ⊢
            omega
          · show _ ≤ stLen (lexW (32 :: 43 :: 32 :: (bodyS x ++ termsS (i + 1) l) ++ X))
            rw [List.cons_append, List.cons_append, List.cons_append, lexW_sp, lexW_plus]
            simp only [stLen, List.length_cons, List.length_append, List.length_nil] at h4 h5 ⊢
            omega
      have := this l 1 (by omega) hl
      unfold stLen at this
      omega
    obtain ⟨q, hq⟩ : ∃ q, (lexW (termsS 1 l ++ X)).1.length + (lexW (termsS 1 l ++ X)).2.length + 1 = (q + 1) + l.length := ⟨(lexW (termsS 1 l ++ X)).1.length + (lexW (termsS 1 l ++ X)).2.length - l.length, by omega⟩
    rw [hq, pTerms_read l 1 (by omega) hl X hgX (q + 1) [t], hlX]
    simp only [pTerms]
    rw [if_neg (by rintro (h | h); exact o3 h; exact o4 h)]
    dsimp only
    rw [o2, if_neg (by omega), lexW_sp, n1]
    dsimp only
    rw [n2]
    rfl
end Pr
end Go.Proofs.YtonmpealebggoaaGreatDoor
namespace Go.Proofs.YtonmpealebggoaaGreatDoor
namespace Pr
/-- A condition's text without parentheses around it. -/
def bareS (f : Nat) (c : Cd) : Src :=
  if c.kind = 0 then cmpS c
  else if c.kind = 1 then wNot ++ [32] ++ showF f (kid c 0) 3
  else if c.kind = 2 then showF f (kid c 0) 2 ++ ([32] ++ wAnd ++ [32]) ++ showF f (kid c 1) 3
  else showF f (kid c 0) 1 ++ ([32] ++ wOr ++ [32]) ++ showF f (kid c 1) 2
theorem show_bare (f : Nat) (c : Cd) (least : Nat) : showF (f + 1) c least = if lev c.kind < least then [40] ++ bareS f c ++ [41] else bareS f c := rfl
def kwOf (least : Nat) : Src := if least = 2 then wAnd else wOr
def kdOf (least : Nat) : Int := if least = 2 then 2 else 3
theorem pCond_low (f least : Nat) (s : St) (h : least < 3) : pCond (f + 1) least s = match pCond f (least + 1) s with
    | none => none
    | some (c, s2) => pMore (pCond f (least + 1)) (kdOf least) (kwOf least) (stLen s2 + 1) c s2 := by
  simp only [pCond]
  rw [if_neg (by omega)]
  rfl
theorem pCond_not (f : Nat) (r : Src) : pCond (f + 1) 3 (wNot, r) = match pCond f 3 (lexW r) with | none => none | some (c, s2) => some (.mk 1 [] 0 0 [c], s2) := rfl
theorem pCond_par (f : Nat) (r : Src) : pCond (f + 1) 3 ([40], r) = match pCond f 1 (lexW r) with
    | none => none
    | some (c, s2) => match pWant [41] s2 with | none => none | some s3 => some (c, s3) := rfl
theorem pCond_cmp (f : Nat) (s : St) (h1 : s.1 ≠ wNot) (h2 : s.1 ≠ [40]) : pCond (f + 1) 3 s = pCompare s := by
  simp only [pCond]
  rw [if_pos (by omega), if_neg h1, if_neg h2]
theorem pMore_end (g : St → Option (Cd × St)) (kd : Int) (kw : Src) (k : Nat) (c : Cd) (s : St) (h : s.1 ≠ kw) : pMore g kd kw (k + 1) c s = some (c, s) := by
  simp only [pMore]; rw [if_neg h]
theorem pMore_go (g : St → Option (Cd × St)) (kd : Int) (kw : Src) (k : Nat) (c d : Cd) (r : Src) (s2 : St) (h : g (lexW r) = some (d, s2)) : pMore g kd kw (k + 1) c (kw, r) = pMore g kd kw k (.mk kd [] 0 0 [c, d]) s2 := by
  simp only [pMore]; rw [if_pos trivial, h]
/-- How many operands of this kind stand on the left. -/
def spn (kd : Int) : Nat → Cd → Nat
  | 0, _ => 0
  | f + 1, c => if c.kind = kd then spn kd f (kid c 0) + 1 else 0
theorem lexW_and (r : Src) : lexW (32 :: (wAnd ++ (32 :: r))) = (wAnd, 32 :: r) := by
  rw [lexW_sp]
  exact lexW_word (c := 97) (w := [110, 100]) (by decide) rfl rfl (good_sp _)
theorem lexW_or (r : Src) : lexW (32 :: (wOr ++ (32 :: r))) = (wOr, 32 :: r) := by
  rw [lexW_sp]
  exact lexW_word (c := 111) (w := [114]) (by decide) rfl rfl (good_sp _)
theorem lexW_not (r : Src) : lexW (wNot ++ (32 :: r)) = (wNot, 32 :: r) := lexW_word (c := 110) (w := [111, 116]) (by decide) rfl rfl (good_sp _)
theorem lexW_open (r : Src) : lexW (40 :: r) = ([40], r) := lexW_one rfl rfl
theorem lexW_shut (r : Src) : lexW (41 :: r) = ([41], r) := lexW_one rfl rfl
theorem good_shut (r : Src) : goodT (41 :: r) := good_cons r rfl
theorem lexW_full {c : UInt8} (h : wsB c = false) (r : Src) : stLen (lexW (c :: r)) = (c :: r).length := by
  unfold lexW
  rw [wordF_len, skipW, if_neg (by rw [h]; simp)]
theorem lexW_mono : ∀ (A X : Src), stLen (lexW X) ≤ stLen (lexW (A ++ X))
  | [], X => Nat.le_refl _
  | c :: A, X => by
    by_cases h : wsB c = true
    · rw [List.cons_append, lexW_ws h]; exact lexW_mono A X
    · rw [List.cons_append, lexW_full (by simpa using h)]
      have := lexW_len X
      simp only [List.length_cons, List.length_append]
      omega
/-- The claims on a condition: read at each level; its operands on the left. -/
def R3 (c : Cd) (T : Src) : Prop := ∀ r : Src, goodT r → ∀ f, 3 * stLen (lexW (T ++ r)) < f → pCond f 3 (lexW (T ++ r)) = some (c, lexW r)
def RL (least : Nat) (c : Cd) (T : Src) : Prop := ∀ r : Src, goodT r → (lexW r).1 ≠ wAnd → (least = 1 → (lexW r).1 ≠ wOr) → ∀ f, 3 * stLen (lexW (T ++ r)) + (3 - least) < f → pCond f least (lexW (T ++ r)) = some (c, lexW r)
def SP (least : Nat) (n : Nat) (c : Cd) (T : Src) : Prop := ∀ r : Src, goodT r → (least = 1 → (lexW r).1 ≠ wAnd) → ∀ f, 3 * stLen (lexW (T ++ r)) + (2 - least) < f → ∃ x s2, pCond f (least + 1) (lexW (T ++ r)) = some (x, s2) ∧ n + stLen (lexW r) ≤ stLen s2 ∧
  ∀ k, pMore (pCond f (least + 1)) (kdOf least) (kwOf least) (k + n) x s2 = pMore (pCond f (least + 1)) (kdOf least) (kwOf least) k c (lexW r)
theorem RL_of_SP {least n : Nat} {c : Cd} {T : Src} (hl : least = 1 ∨ least = 2) (h : SP least n c T) : RL least c T := by
  intro r hr hA hO f hf
  obtain ⟨f', rfl⟩ : ∃ f', f = f' + 1 := ⟨f - 1, by omega⟩
  obtain ⟨x, s2, e1, e2, e3⟩ := h r hr (fun _ => hA) f' (by omega)
  rw [pCond_low f' least _ (by omega), e1]
  dsimp only
  obtain ⟨q, hq⟩ : ∃ q, stLen s2 + 1 = (q + 1) + n := ⟨stLen s2 - n, by omega⟩
  rw [hq, e3, pMore_end]
  rcases hl with rfl | rfl
  · exact hO rfl
  · exact hA
/-- An operand that is not of this kind. -/
theorem SP_of_R {least : Nat} {c : Cd} {T : Src} (hl : least = 1 ∨ least = 2) (h2 : least = 2 → R3 c T) (h1 : least = 1 → RL 2 c T) : SP least 0 c T := by
  intro r hr hA f hf
  refine ⟨c, lexW r, ?_, by omega, fun k => rfl⟩
  rcases hl with rfl | rfl
  · exact h1 rfl r hr (hA rfl) (fun h => absurd h (by decide)) f (by omega)
  · exact h2 rfl r hr f (by omega)
/-- An operator behind its operands on the left. -/
theorem SP_more {least n : Nat} {a b : Cd} {Ta Tb : Src} (hl : least = 1 ∨ least = 2) (ha : SP least n a Ta) (hb2 : least = 2 → R3 b Tb) (hb1 : least = 1 → RL 2 b Tb) :
    SP least (n + 1) (.mk (kdOf least) [] 0 0 [a, b]) (Ta ++ ([32] ++ kwOf least ++ [32]) ++ Tb) := by
  intro r hr hA f hf
  have hT : Ta ++ ([32] ++ kwOf least ++ [32]) ++ Tb ++ r = Ta ++ (32 :: (kwOf least ++ (32 :: (Tb ++ r)))) := by simp [List.append_assoc]
  rw [hT] at hf ⊢
  have hlx : lexW (32 :: (kwOf least ++ (32 :: (Tb ++ r)))) = (kwOf least, 32 :: (Tb ++ r)) := by
    rcases hl with rfl | rfl
    · exact lexW_or _
    · exact lexW_and _
  obtain ⟨x, s2, e1, e2, e3⟩ := ha (32 :: (kwOf least ++ (32 :: (Tb ++ r)))) (good_sp _) (fun h => by rw [hlx, h]; exact (by decide : kwOf 1 ≠ wAnd)) f hf
  rw [hlx] at e2 e3
  refine ⟨x, s2, e1, ?_, fun k => ?_⟩
  · have h1 := lexW_len r
    have h3 : (kwOf least).length ≠ 0 := by rcases hl with rfl | rfl <;> decide
    simp only [stLen, List.length_cons, List.length_append] at e2 h1 ⊢
    omega
  · have e4 := e3 (k + 1)
    rw [Nat.add_right_comm] at e4
    rw [show k + (n + 1) = k + n + 1 by omega, e4]
    refine pMore_go _ _ _ _ _ _ _ _ ?_
    rw [lexW_sp]
    have hle : 3 * stLen (lexW (Tb ++ r)) + 3 < f := by
      have h1 := lexW_len (Tb ++ r)
      have h4 := lexW_mono Ta (32 :: (kwOf least ++ (32 :: (Tb ++ r))))
      have h5 : (kwOf least).length ≠ 0 := by rcases hl with rfl | rfl <;> decide
      rw [hlx] at h4
      simp only [stLen, List.length_cons] at h4 h1 hf ⊢
      omega
    rcases hl with rfl | rfl
    · exact hb1 rfl r hr (hA rfl) (fun h => absurd h (by decide)) f (by omega)
    · exact hb2 rfl r hr f (by omega)
/-- Not, and what stands in parentheses. -/
theorem R3_not {a : Cd} {Ta : Src} (h : R3 a Ta) : R3 (.mk 1 [] 0 0 [a]) (wNot ++ [32] ++ Ta) := by
  intro r hr f hf
  have hT : wNot ++ [32] ++ Ta ++ r = wNot ++ (32 :: (Ta ++ r)) := by simp [List.append_assoc]
  rw [hT, lexW_not] at hf ⊢
  obtain ⟨f', rfl⟩ : ∃ f', f = f' + 1 := ⟨f - 1, by omega⟩
  have h1 := lexW_len (Ta ++ r)
  simp only [stLen, List.length_cons, wNot, List.length_nil] at hf h1
  rw [pCond_not, lexW_sp, h r hr f' (by simp only [stLen]; omega)]
theorem R3_par {c : Cd} {T : Src} (h : RL 1 c T) : R3 c ([40] ++ T ++ [41]) := by
  intro r hr f hf
  have hT : [40] ++ T ++ [41] ++ r = 40 :: (T ++ (41 :: r)) := by simp [List.append_assoc]
  rw [hT, lexW_open] at hf ⊢
  obtain ⟨f', rfl⟩ : ∃ f', f = f' + 1 := ⟨f - 1, by omega⟩
  have h1 := lexW_len (T ++ (41 :: r))
  simp only [stLen, List.length_cons, List.length_nil] at hf h1
  rw [pCond_par, h (41 :: r) (good_shut _) (by rw [lexW_shut]; exact (by decide : ([41] : Src) ≠ wAnd)) (fun _ => by rw [lexW_shut]; exact (by decide : ([41] : Src) ≠ wOr)) f' (by simp only [stLen]; omega)]
  dsimp only
  rw [lexW_shut]
  rfl
theorem R3_cmp {c : Cd} (hk : c.kind = 0) (h : compareE c = 0) : R3 c (cmpS c) := by
  intro r hr f hf
  obtain ⟨f', rfl⟩ : ∃ f', f = f' + 1 := ⟨f - 1, by omega⟩
  obtain ⟨h1, h2, h3⟩ := compare_read hk h hr
  rw [pCond_cmp f' _ h2 h3, h1]
/-- All claims at a depth. -/
structure AllR (f : Nat) (c : Cd) : Prop where
  r3 : R3 c (showF f c 3)
  r2 : RL 2 c (showF f c 2)
  r1 : RL 1 c (showF f c 1)
  s2 : SP 2 (spn 2 f c) c (showF f c 2)
  s1 : SP 1 (spn 3 f c) c (showF f c 1)
theorem all_read : ∀ (f : Nat) (c : Cd), VC f c → AllR f c
  | 0, c, h => h.elim
  | f + 1, c, h => by
    have hb := show_bare f c
    rcases h with ⟨hk, hc⟩ | ⟨hk, a, e, ha⟩ | ⟨hk, a, b, e, ha, hbv⟩
    · have e0 : bareS f c = cmpS c := by unfold bareS; rw [if_pos hk]
      have hl : lev c.kind = 3 := by rw [hk]; rfl
      have k3 : showF (f + 1) c 3 = cmpS c := by rw [hb, if_neg (by omega), e0]
      have k2 : showF (f + 1) c 2 = cmpS c := by rw [hb, if_neg (by omega), e0]
      have k1 : showF (f + 1) c 1 = cmpS c := by rw [hb, if_neg (by omega), e0]
      have n2 : spn 2 (f + 1) c = 0 := by simp only [spn]; rw [if_neg (by omega)]
      have n3 : spn 3 (f + 1) c = 0 := by simp only [spn]; rw [if_neg (by omega)]
      have r3 := R3_cmp hk hc
      have s2 := SP_of_R (least := 2) (.inr rfl) (fun _ => r3) (fun h => absurd h (by decide))
      have r2 := RL_of_SP (.inr rfl) s2
      have s1 := SP_of_R (least := 1) (.inl rfl) (fun h => absurd h (by decide)) (fun _ => r2)
      exact ⟨by rw [k3]; exact r3, by rw [k2]; exact r2, by rw [k1]; exact RL_of_SP (.inl rfl) s1, by rw [k2, n2]; exact s2, by rw [k1, n3]; exact s1⟩
    · have ih := all_read f a ha
      have e0 : bareS f c = wNot ++ [32] ++ showF f a 3 := by unfold bareS; rw [if_neg (by omega), if_pos hk, e]; rfl
      have hl : lev c.kind = 3 := by rw [hk]; rfl
      have k3 : showF (f + 1) c 3 = wNot ++ [32] ++ showF f a 3 := by rw [hb, if_neg (by omega), e0]
      have k2 : showF (f + 1) c 2 = wNot ++ [32] ++ showF f a 3 := by rw [hb, if_neg (by omega), e0]
      have k1 : showF (f + 1) c 1 = wNot ++ [32] ++ showF f a 3 := by rw [hb, if_neg (by omega), e0]
      have n2 : spn 2 (f + 1) c = 0 := by simp only [spn]; rw [if_neg (by omega)]
      have n3 : spn 3 (f + 1) c = 0 := by simp only [spn]; rw [if_neg (by omega)]
      have r3 : R3 c (wNot ++ [32] ++ showF f a 3) := by rw [e]; exact R3_not ih.r3
      have s2 := SP_of_R (least := 2) (.inr rfl) (fun _ => r3) (fun h => absurd h (by decide))
      have r2 := RL_of_SP (.inr rfl) s2
      have s1 := SP_of_R (least := 1) (.inl rfl) (fun h => absurd h (by decide)) (fun _ => r2)
      exact ⟨by rw [k3]; exact r3, by rw [k2]; exact r2, by rw [k1]; exact RL_of_SP (.inl rfl) s1, by rw [k2, n2]; exact s2, by rw [k1, n3]; exact s1⟩
    · have iha := all_read f a ha
      have ihb := all_read f b hbv
      rcases hk with hk | hk
      · rw [hk] at e
        have e0 : bareS f c = showF f a 2 ++ ([32] ++ kwOf 2 ++ [32]) ++ showF f b 3 := by unfold bareS; rw [if_neg (by omega), if_neg (by omega), if_pos hk, e]; rfl
        have hl : lev c.kind = 2 := by rw [hk]; rfl
        have k3 : showF (f + 1) c 3 = [40] ++ bareS f c ++ [41] := by rw [hb, if_pos (by omega)]
        have k2 : showF (f + 1) c 2 = bareS f c := by rw [hb, if_neg (by omega)]
        have k1 : showF (f + 1) c 1 = bareS f c := by rw [hb, if_neg (by omega)]
        have n2 : spn 2 (f + 1) c = spn 2 f a + 1 := by simp only [spn]; rw [if_pos hk, e]; rfl
        have n3 : spn 3 (f + 1) c = 0 := by simp only [spn]; rw [if_neg (by omega)]
        have s2 : SP 2 (spn 2 f a + 1) c (bareS f c) := by
          rw [e0]
          have := SP_more (least := 2) (a := a) (b := b) (.inr rfl) iha.s2 (fun _ => ihb.r3) (fun h => absurd h (by decide))
          rw [e]; exact this
        have r2 := RL_of_SP (.inr rfl) s2
        have s1 := SP_of_R (least := 1) (.inl rfl) (fun h => absurd h (by decide)) (fun _ => r2)
        have r1 := RL_of_SP (.inl rfl) s1
        exact ⟨by rw [k3]; exact R3_par r1, by rw [k2]; exact r2, by rw [k1]; exact r1, by rw [k2, n2]; exact s2, by rw [k1, n3]; exact s1⟩
      · rw [hk] at e
        have e0 : bareS f c = showF f a 1 ++ ([32] ++ kwOf 1 ++ [32]) ++ showF f b 2 := by unfold bareS; rw [if_neg (by omega), if_neg (by omega), if_neg (by omega), e]; rfl
        have hl : lev c.kind = 1 := by rw [hk]; rfl
        have k3 : showF (f + 1) c 3 = [40] ++ bareS f c ++ [41] := by rw [hb, if_pos (by omega)]
        have k2 : showF (f + 1) c 2 = [40] ++ bareS f c ++ [41] := by rw [hb, if_pos (by omega)]
        have k1 : showF (f + 1) c 1 = bareS f c := by rw [hb, if_neg (by omega)]
        have n2 : spn 2 (f + 1) c = 0 := by simp only [spn]; rw [if_neg (by omega)]
        have n3 : spn 3 (f + 1) c = spn 3 f a + 1 := by simp only [spn]; rw [if_pos hk, e]; rfl
        have s1 : SP 1 (spn 3 f a + 1) c (bareS f c) := by
          rw [e0]
          have := SP_more (least := 1) (a := a) (b := b) (.inl rfl) iha.s1 (fun h => absurd h (by decide)) (fun _ => ihb.r2)
          rw [e]; exact this
        have r1 := RL_of_SP (.inl rfl) s1
        have r3 := R3_par r1
        have s2 := SP_of_R (least := 2) (.inr rfl) (fun _ => r3) (fun h => absurd h (by decide))
        exact ⟨by rw [k3]; exact r3, by rw [k2]; exact RL_of_SP (.inr rfl) s2, by rw [k1]; exact r1, by rw [k2, n2]; exact s2, by rw [k1, n3]; exact s1⟩
/-- A condition's text is read as the condition. -/
theorem cond_read {f : Nat} {c : Cd} (h : VC f c) {r : Src} (hr : goodT r) (h1 : (lexW r).1 ≠ wAnd) (h2 : (lexW r).1 ≠ wOr) : pCond (workN (lexW (showF f c 0 ++ r))) 1 (lexW (showF f c 0 ++ r)) = some (c, lexW r) := by
  have e : showF f c 0 = showF f c 1 := by
    cases f with
    | zero => exact h.elim
    | succ f =>
      have hl : 1 ≤ lev c.kind := by unfold lev; split; omega; split <;> omega
      rw [show_bare, show_bare, if_neg (by omega), if_neg (by omega)]
  rw [e]
  exact (all_read f c h).r1 r hr h1 (fun _ => h2) _ (by unfold workN; omega)
end Pr
end Go.Proofs.YtonmpealebggoaaGreatDoor
namespace Go.Proofs.YtonmpealebggoaaGreatDoor
namespace Pr
structure RlOk (r : Rl) : Prop where
  nm : plainB r.1 = true
  cd : VC 12 r.2
theorem rules_ok : ∀ {pre l : List Rl}, rulesE pre l = 0 → ∀ r ∈ l, RlOk r
  | _, [], _, r, hr => by cases hr
  | pre, x :: l, h, r, hr => by
    simp only [rulesE] at h
    by_cases e : ruleE pre x ≠ 0
    · rw [if_pos e] at h; exact absurd h e
    · rw [if_neg e] at h
      rcases List.mem_cons.1 hr with rfl | hr
      · have e : ruleE pre r = 0 := by simpa using e
        unfold ruleE at e
        split at e
        · simp at e
        split at e
        · simp at e
        rename_i h1 h2
        exact ⟨by simpa using h1, cond_valid 12 0 r.2 e⟩
      · exact rules_ok h r hr
theorem check_ok {l : List Rl} (h : checkE l = 0) : l.length ≤ 32 ∧ rulesE [] l = 0 ∧ (printS l).length ≤ 4096 := by
  unfold checkE at h
  split at h
  · simp at h
  split at h
  · rename_i h1; exact absurd h h1
  split at h
  · simp at h
  rename_i h1 h2 h3
  exact ⟨by omega, by simpa using h2, by omega⟩
theorem lexW_colon (r : Src) : lexW (58 :: r) = ([58], r) := lexW_one rfl rfl
theorem lexW_semi (r : Src) : lexW (59 :: r) = ([59], r) := lexW_one rfl rfl
theorem lexW_rule (r : Src) : lexW (wRule ++ (32 :: r)) = (wRule, 32 :: r) := lexW_word (c := 114) (w := [117, 108, 101]) (by decide) rfl rfl (good_sp _)
theorem rule_read {r : Rl} (h : RlOk r) (t : Src) : pRule (lexW (lineS r ++ t)) = some (r, lexW t) := by
  have hT : lineS r ++ t = wRule ++ (32 :: (r.1 ++ (58 :: (32 :: (showF 12 r.2 0 ++ (59 :: (10 :: t))))))) := by simp [lineS, List.append_assoc]
  rw [hT, lexW_rule]
  unfold pRule pWant
  dsimp only
  rw [if_pos rfl]
  dsimp only
  rw [lexW_sp, lexW_name h.nm (good_cons _ rfl)]
  unfold pName
  dsimp only
  rw [if_pos h.nm]
  dsimp only
  rw [lexW_colon]
  dsimp only
  rw [if_pos rfl]
  dsimp only
  rw [lexW_sp, cond_read h.cd (good_cons _ rfl) (by rw [lexW_semi]; exact (by decide : ([59] : Src) ≠ wAnd)) (by rw [lexW_semi]; exact (by decide : ([59] : Src) ≠ wOr))]
  dsimp only
  rw [lexW_semi, if_pos rfl]
  dsimp only
  rw [lexW_lf]
theorem pRules_read : ∀ (l : List Rl), (∀ r ∈ l, RlOk r) → ∀ (t : Src) (k : Nat) (acc : List Rl), pRules (k + l.length) acc (lexW (printS l ++ t)) = pRules k (acc ++ l) (lexW t)
  | [], _, t, k, acc => by simp [printS]
  | r :: l, h, t, k, acc => by
    have hr := rule_read (h r (by simp)) (printS l ++ t)
    have ih := pRules_read l (fun x hx => h x (by simp [hx])) t k (acc ++ [r])
    have hT : printS (r :: l) ++ t = lineS r ++ (printS l ++ t) := by simp [printS, List.append_assoc]
    rw [hT, List.length_cons, ← Nat.add_assoc]
    have hne : (lexW (lineS r ++ (printS l ++ t))).1 ≠ [] := by
      have : lineS r ++ (printS l ++ t) = wRule ++ (32 :: (r.1 ++ (58 :: (32 :: (showF 12 r.2 0 ++ (59 :: (10 :: (printS l ++ t)))))))) := by simp [lineS, List.append_assoc]
      rw [this, lexW_rule]; exact (by decide : wRule ≠ [])
    simp only [pRules]
    rw [if_neg hne, hr]
    dsimp only
    rw [ih, List.append_assoc]
    rfl
theorem line_len (r : Rl) : 1 ≤ (lineS r).length := by simp [lineS, wRule]
theorem print_len : ∀ l : List Rl, l.length ≤ (printS l).length
  | [] => Nat.le_refl _
  | r :: l => by
    have h1 := print_len l
    have h2 := line_len r
    simp only [printS, List.flatMap_cons, List.length_append, List.length_cons] at h1 ⊢
    omega
theorem parse_print {l : List Rl} (h : ∀ r ∈ l, RlOk r) : parseS (printS l) = some l := by
  have h1 := pRules_read l h [] ((printS l).length + 1 - l.length) []
  have h2 := print_len l
  unfold parseS
  rw [List.append_nil, show (printS l).length + 1 - l.length + l.length = (printS l).length + 1 by omega] at h1
  rw [h1, List.nil_append]
  obtain ⟨q, hq⟩ : ∃ q, (printS l).length + 1 - l.length = q + 1 := ⟨(printS l).length - l.length, by omega⟩
  rw [hq]
  rfl
end Pr
end Go.Proofs.YtonmpealebggoaaGreatDoor
namespace Go.Proofs.YtonmpealebggoaaGreatDoor
namespace Pr
/-- All that l tells, m tells too. -/
def Tells (l m : List Ft) : Prop := ∀ nm v, factV l nm = some v → factV m nm = some v
theorem sum_more {l m : List Ft} (h : Tells l m) : ∀ (ts : List Tm) (a x : Int), sumV l ts a = some x → sumV m ts a = some x
  | [], a, x, e => e
  | t :: r, a, x, e => by
    simp only [sumV] at e ⊢
    cases hv : factV l t.2 with
    | none => rw [hv] at e; cases e
    | some v => rw [hv] at e; rw [h _ _ hv]; exact sum_more h r _ x e
theorem truth_cases (f : Nat) (l : List Ft) (c : Cd) : truthF f l c = 0 ∨ truthF f l c = 1 ∨ truthF f l c = 2 := by
  induction f generalizing c with
  | zero => exact .inl rfl
  | succ f ih =>
    have h0 := ih (kid c 0)
    have h1 := ih (kid c 1)
    simp only [truthF]
    generalize truthF f l (kid c 0) = a at *
    generalize truthF f l (kid c 1) = b at *
    split
    · split
      · simp
      · split <;> simp
    split
    · generalize hs : (if c.kind = 3 then (1 : Int) else 0) = s
      have hs2 : s = 0 ∨ s = 1 := by rw [← hs]; split <;> simp
      clear hs
      split
      · omega
      · split
        · simp
        · exact h0
    · split
      · simp
      · split <;> simp
/-- More facts never turn what was true or false. -/
theorem truth_more {l m : List Ft} (h : Tells l m) (f : Nat) (c : Cd) : truthF f l c = 2 ∨ truthF f m c = truthF f l c := by
  induction f generalizing c with
  | zero => exact .inr rfl
  | succ f ih =>
    have h0 := ih (kid c 0)
    have h1 := ih (kid c 1)
    have t0 := truth_cases f l (kid c 0)
    have t1 := truth_cases f l (kid c 1)
    simp only [truthF]
    generalize truthF f l (kid c 0) = a at *
    generalize truthF f l (kid c 1) = b at *
    generalize truthF f m (kid c 0) = a' at *
    generalize truthF f m (kid c 1) = b' at *
    by_cases k1 : c.kind = 1
    · rw [if_pos k1, if_pos k1]
      rcases h0 with h0 | h0
      · subst h0; left; rfl
      · subst h0; right; rfl
    rw [if_neg k1, if_neg k1]
    by_cases k2 : c.kind = 2 ∨ c.kind = 3
    · rw [if_pos k2, if_pos k2]
      generalize hs : (if c.kind = 3 then (1 : Int) else 0) = s
      have hs2 : s = 0 ∨ s = 1 := by rw [← hs]; split <;> simp
      clear hs k1 k2
      by_cases ha : a = s ∨ b = s
      · right
        have : a' = s ∨ b' = s := by
          rcases ha with ha | ha
          · rcases h0 with h0 | h0
            · omega
            · exact .inl (h0.trans ha)
          · rcases h1 with h1 | h1
            · omega
            · exact .inr (h1.trans ha)
        rw [if_pos ha, if_pos this]
      · rw [if_neg ha]
        by_cases hb : a = 2 ∨ b = 2
        · rw [if_pos hb]; left; rfl
        · rw [if_neg hb]
          right
          have e1 : a' = a := by omega
          have e2 : b' = b := by omega
          rw [e1, e2, if_neg ha, if_neg hb]
    · rw [if_neg k2, if_neg k2]
      cases hv : sumV l c.terms 0 with
      | none => left; rfl
      | some x => rw [sum_more h _ _ _ hv]; right; rfl
/-- De Morgan. -/
theorem truth_morgan (f : Nat) (l : List Ft) (a b : Cd) : truthF (f + 2) l (.mk 1 [] 0 0 [.mk 2 [] 0 0 [a, b]]) = truthF (f + 2) l (.mk 3 [] 0 0 [.mk 1 [] 0 0 [a], .mk 1 [] 0 0 [b]]) := by
  have t0 := truth_cases f l a
  have t1 := truth_cases f l b
  have e : ∀ c d : Cd, kid (.mk 2 [] 0 0 [c, d]) 0 = c ∧ kid (.mk 2 [] 0 0 [c, d]) 1 = d ∧ kid (.mk 3 [] 0 0 [c, d]) 0 = c ∧ kid (.mk 3 [] 0 0 [c, d]) 1 = d := fun _ _ => ⟨rfl, rfl, rfl, rfl⟩
  have e1 : ∀ c : Cd, kid (.mk 1 [] 0 0 [c]) 0 = c := fun _ => rfl
  simp only [truthF, e1, Cd.kind, (e _ _).1, (e _ _).2.1, (e _ _).2.2.1, (e _ _).2.2.2]
  generalize truthF f l a = x at *
  generalize truthF f l b = y at *
  rcases t0 with rfl | rfl | rfl <;> rcases t1 with rfl | rfl | rfl <;> simp
/-! Facts in order. -/
theorem ltB_irr : ∀ s : Src, ltB s s = false
  | [] => rfl
  | a :: r => by simp only [ltB]; rw [if_neg (by simp), if_neg (by simp)]; exact ltB_irr r
theorem ltB_trans : ∀ {a b c : Src}, ltB a b = true → ltB b c = true → ltB a c = true
  | [], [], _, h, _ => by simp [ltB] at h
  | [], _ :: _, [], _, h => by simp [ltB] at h
  | [], _ :: _, _ :: _, _, _ => rfl
  | _ :: _, [], _, h, _ => by simp [ltB] at h
  | _ :: _, _ :: _, [], _, h => by simp [ltB] at h
  | x :: a, y :: b, z :: c, h1, h2 => by
    simp only [ltB] at h1 h2 ⊢
    have lt : ∀ p q : UInt8, p < q ↔ p.toNat < q.toNat := fun _ _ => UInt8.lt_iff_toNat_lt
    simp only [lt] at h1 h2 ⊢
    by_cases g1 : x.toNat < y.toNat
    · by_cases g2 : y.toNat < z.toNat
      · rw [if_pos (by omega)]
      · rw [if_neg g2] at h2
        by_cases g3 : z.toNat < y.toNat
        · rw [if_pos g3] at h2; cases h2
        · rw [if_pos (by omega)]
    · rw [if_neg g1] at h1
      by_cases g3 : y.toNat < x.toNat
      · rw [if_pos g3] at h1; cases h1
      · rw [if_neg g3] at h1
        by_cases g2 : y.toNat < z.toNat
        · rw [if_pos (by omega)]
        · rw [if_neg g2] at h2
          by_cases g4 : z.toNat < y.toNat
          · rw [if_pos g4] at h2; cases h2
          · rw [if_neg g4] at h2
            rw [if_neg (by omega), if_neg (by omega)]
            exact ltB_trans h1 h2
structure FtOk (x : Ft) : Prop where
  nm : plainB x.1 = true
  lo : -2147483648 ≤ x.2
  hi : x.2 ≤ 2147483648
theorem factE_zero {pre : Option Ft} {x : Ft} : factE pre x = 0 ↔ FtOk x ∧ ∀ y, pre = some y → ltB y.1 x.1 = true := by
  unfold factE
  constructor
  · intro h
    by_cases h1 : plainB x.1 = false
    · rw [if_pos h1] at h; simp at h
    · rw [if_neg h1] at h
      by_cases h2 : x.2 < -2147483648 ∨ 2147483648 < x.2
      · rw [if_pos h2] at h; simp at h
      · rw [if_neg h2] at h
        refine ⟨⟨by simpa using h1, by omega, by omega⟩, ?_⟩
        rintro y rfl
        by_cases h3 : ltB y.1 x.1 = true
        · exact h3
        · simp [h3] at h
  · rintro ⟨⟨h1, h2, h3⟩, h4⟩
    rw [if_neg (by rw [h1]; simp), if_neg (by omega)]
    cases pre with
    | none => rfl
    | some y => simp [h4 y rfl]
theorem factsF_zero : ∀ {pre : Option Ft} {l : List Ft}, factsF pre l = 0 ↔ (∀ x ∈ l, FtOk x) ∧ l.Pairwise (fun a b => ltB a.1 b.1 = true) ∧ (∀ y, pre = some y → ∀ x ∈ l, ltB y.1 x.1 = true)
  | pre, [] => by simp [factsF]
  | pre, x :: r => by
    simp only [factsF]
    by_cases e : factE pre x ≠ 0
    · rw [if_pos e]
      constructor
      · intro h; exact absurd h e
      · rintro ⟨h1, h2, h3⟩
        exact factE_zero.2 ⟨h1 x (by simp), fun y hy => h3 y hy x (by simp)⟩
    · rw [if_neg e, factsF_zero]
      have e := factE_zero.1 (by simpa using e : factE pre x = 0)
      constructor
      · rintro ⟨h1, h2, h3⟩
        refine ⟨fun y hy => ?_, List.pairwise_cons.2 ⟨fun y hy => h3 x rfl y hy, h2⟩, fun y hy z hz => ?_⟩
        · rcases List.mem_cons.1 hy with rfl | hy
          · exact e.1
          · exact h1 y hy
        · rcases List.mem_cons.1 hz with rfl | hz
          · exact e.2 y hy
          · exact ltB_trans (e.2 y hy) (h3 x rfl z hz)
      · rintro ⟨h1, h2, h3⟩
        obtain ⟨p1, p2⟩ := List.pairwise_cons.1 h2
        refine ⟨fun y hy => h1 y (by simp [hy]), p2, fun y hy z hz => ?_⟩
        cases hy; exact p1 z hz
/-- Facts without an error. -/
def FtsOk (l : List Ft) : Prop := l.length ≤ 64 ∧ (∀ x ∈ l, FtOk x) ∧ l.Pairwise (fun a b => ltB a.1 b.1 = true)
theorem factsE_zero {l : List Ft} : factsE l = 0 ↔ FtsOk l := by
  unfold factsE FtsOk
  constructor
  · intro h
    by_cases h1 : 64 < l.length
    · rw [if_pos h1] at h; simp at h
    · rw [if_neg h1, factsF_zero] at h
      exact ⟨by omega, h.1, h.2.1⟩
  · rintro ⟨h1, h2, h3⟩
    rw [if_neg (by omega), factsF_zero]
    exact ⟨h2, h3, fun y hy => by cases hy⟩
theorem FtsOk.sub {l m : List Ft} (h : FtsOk l) (hs : m.Sublist l) : FtsOk m := ⟨Nat.le_trans hs.length_le h.1, fun x hx => h.2.1 x (hs.subset hx), h.2.2.sublist hs⟩
theorem ltB_ne {a b : Src} (h : ltB a b = true) : a ≠ b := by rintro rfl; rw [ltB_irr] at h; cases h
/-- The fact of a name among facts in order. -/
theorem factV_mem {l : List Ft} (h : l.Pairwise (fun a b => ltB a.1 b.1 = true)) {nm : Src} {v : Int} : factV l nm = some v ↔ (nm, v) ∈ l := by
  unfold factV
  induction l with
  | nil => simp
  | cons x r ih =>
    obtain ⟨p1, p2⟩ := List.pairwise_cons.1 h
    rw [List.find?_cons]
    by_cases e : x.1 = nm
    · rw [show (x.1 == nm) = true by simpa using e]
      simp only [Option.map_some, Option.some.injEq, List.mem_cons]
      constructor
      · rintro rfl; left; rw [← e]
      · rintro (h1 | h1)
        · rw [← h1]
        · have := ltB_ne (p1 _ h1); exact absurd e this
    · rw [show (x.1 == nm) = false by simpa using e, ih p2]
      simp only [List.mem_cons]
      constructor
      · intro h1; right; exact h1
      · rintro (h1 | h1)
        · rw [← h1] at e; exact absurd rfl e
        · exact h1
theorem tells_sub {l m : List Ft} (h : FtsOk m) (hs : ∀ x ∈ l, x ∈ m) (hl : l.Pairwise (fun a b => ltB a.1 b.1 = true)) : Tells l m := fun _ _ e => (factV_mem h.2.2).2 (hs _ ((factV_mem hl).1 e))
/-! Reasons. -/
/-- The facts that are kept: those of todo are still to be looked at. -/
def becF (n : Nat) (c : Cd) : List Ft → List Ft → List Ft
  | done, [] => done
  | done, x :: r => if truthF n (done ++ r) c = 0 then becF n c done r else becF n c (done ++ [x]) r
theorem bec_sub (n : Nat) (c : Cd) : ∀ done todo : List Ft, (becF n c done todo).Sublist (done ++ todo)
  | done, [] => by simp [becF]
  | done, x :: r => by
    simp only [becF]
    split
    · exact (bec_sub n c done r).trans ((List.Sublist.refl done).append (List.sublist_cons_self x r))
    · have := bec_sub n c (done ++ [x]) r
      rwa [List.append_assoc] at this
theorem bec_done (n : Nat) (c : Cd) : ∀ done todo : List Ft, ∃ t, becF n c done todo = done ++ t ∧ t.Sublist todo
  | done, [] => ⟨[], by simp [becF], List.Sublist.refl _⟩
  | done, x :: r => by
    simp only [becF]
    split
    · obtain ⟨t, h1, h2⟩ := bec_done n c done r
      exact ⟨t, h1, h2.cons x⟩
    · obtain ⟨t, h1, h2⟩ := bec_done n c (done ++ [x]) r
      exact ⟨x :: t, by rw [h1, List.append_assoc]; rfl, h2.cons_cons x⟩
theorem bec_false (n : Nat) (c : Cd) : ∀ done todo : List Ft, truthF n (done ++ todo) c = 0 → truthF n (becF n c done todo) c = 0
  | done, [], h => by simpa [becF] using h
  | done, x :: r, h => by
    simp only [becF]
    split
    · rename_i h1; exact bec_false n c done r h1
    · exact bec_false n c (done ++ [x]) r (by rw [List.append_assoc]; exact h)
/-- No kept fact can be left out. -/
theorem bec_min (n : Nat) (c : Cd) : ∀ (done todo : List Ft), FtsOk (done ++ todo) → (∀ x ∈ done, ∀ m : List Ft, m.Sublist (done ++ todo) → x ∉ m → truthF n m c ≠ 0) → ∀ x ∈ becF n c done todo, ∀ m : List Ft, m.Sublist (becF n c done todo) → x ∉ m → truthF n m c ≠ 0
  | done, [], _, h, x, hx, m, hm, hn => h x (by simpa [becF] using hx) m (by simpa [becF] using hm) hn
  | done, y :: r, hok, h, x, hx, m, hm, hn => by
    simp only [becF] at hx hm
    by_cases e : truthF n (done ++ r) c = 0
    · rw [if_pos e] at hx hm
      have hs : (done ++ r).Sublist (done ++ y :: r) := (List.Sublist.refl done).append (List.sublist_cons_self y r)
      exact bec_min n c done r (hok.sub hs) (fun z hz q hq hzq => h z hz q (hq.trans hs) hzq) x hx m hm hn
    · rw [if_neg e] at hx hm
      have hok2 : FtsOk (done ++ [y] ++ r) := by rw [List.append_assoc]; exact hok
      refine bec_min n c (done ++ [y]) r hok2 (fun z hz q hq hzq => ?_) x hx m hm hn
      rw [List.append_assoc] at hq
      rcases List.mem_append.1 hz with hz | hz
      · exact h z hz q hq hzq
      · obtain rfl : z = y := by simpa using hz
        intro hq0
        have hsub : ∀ a ∈ q, a ∈ done ++ r := fun a ha => by
          have h1 := hq.subset ha
          rcases List.mem_append.1 h1 with h1 | h1
          · exact List.mem_append_left _ h1
          · rcases List.mem_cons.1 h1 with rfl | h1
            · exact absurd ha hzq
            · exact List.mem_append_right _ h1
        have hokr : FtsOk (done ++ r) := hok.sub ((List.Sublist.refl done).append (List.sublist_cons_self z r))
        rcases truth_more (tells_sub hokr hsub (hok.2.2.sublist hq)) n c with h2 | h2
        · rw [hq0] at h2; cases h2
        · exact e (h2.trans hq0)
end Pr
end Go.Proofs.YtonmpealebggoaaGreatDoor
namespace Go.Proofs.YtonmpealebggoaaGreatDoor
namespace Pr
theorem step_len {s : St} (h : s.1 ≠ []) : stLen (lexW s.2) < stLen s := by
  have h1 := lexW_len s.2
  have h2 : 0 < s.1.length := List.length_pos_iff.2 h
  unfold stLen at *
  omega
theorem pSign_len (s : St) : stLen (pSign s).2 ≤ stLen s := by
  unfold pSign
  split
  · rename_i h
    exact Nat.le_of_lt (step_len (by rw [h]; simp))
  · exact Nat.le_refl _
theorem pSign_val (s : St) : (pSign s).1 = 1 ∨ (pSign s).1 = -1 := by
  unfold pSign
  split
  · exact .inr rfl
  · exact .inl rfl
theorem numV_val {m : Int} {w : Src} {n : Int} (h : numV m w = some n) : 0 ≤ n ∧ n ≤ m ∧ w ≠ [] := by
  unfold numV at h
  split at h
  · rename_i n' hn
    split at h
    · rename_i h1
      injection h with h
      subst h
      refine ⟨h1.1, h1.2.1, ?_⟩
      rintro rfl
      cases hn
    · cases h
  · cases h
theorem pNum_len {m : Int} {s : St} {r : Int × St} (h : pNum m s = some r) : stLen r.2 < stLen s ∧ 0 ≤ r.1 ∧ r.1 ≤ m := by
  unfold pNum at h
  split at h
  · rename_i n hn
    injection h with h
    subst h
    obtain ⟨h1, h2, h3⟩ := numV_val hn
    exact ⟨step_len h3, h1, h2⟩
  · cases h
theorem plain_len {s : Src} (h : plainB s = true) : s ≠ [] ∧ s.length ≤ 16 := by
  obtain ⟨c, r, h1, _, _, h2, _⟩ := plain_parts h
  exact ⟨by rw [h1]; simp, h2⟩
theorem pName_len {s : St} {r : Src × St} (h : pName s = some r) : stLen r.2 < stLen s ∧ r.1.length ≤ 16 := by
  unfold pName at h
  split at h
  · rename_i hp
    injection h with h
    subst h
    exact ⟨step_len (plain_len hp).1, (plain_len hp).2⟩
  · cases h
theorem pWant_len {w : Src} {s s2 : St} (hw : w ≠ []) (h : pWant w s = some s2) : stLen s2 < stLen s := by
  unfold pWant at h
  split at h
  · rename_i h1
    injection h with h
    subst h
    exact step_len (by rw [h1]; exact hw)
  · cases h
theorem pTerm_len {sg : Int} {s : St} {r : Tm × St} (h : pTerm sg s = some r) : stLen r.2 < stLen s ∧ r.1.2.length ≤ 16 := by
  unfold pTerm at h
  split at h
  · split at h
    · cases h
    · rename_i n s2 hn
      split at h
      · cases h
      · rename_i nm s3 hm
        injection h with h
        subst h
        have h1 := pNum_len hn
        have h2 := pName_len hm
        exact ⟨Nat.lt_trans h2.1 h1.1, h2.2⟩
  · split at h
    · cases h
    · rename_i nm s3 hm
      injection h with h
      subst h
      have h2 := pName_len hm
      exact ⟨h2.1, h2.2⟩
theorem pTerms_len : ∀ (k : Nat) {l : List Tm} {s : St} {r : List Tm × St}, pTerms k l s = some r → stLen r.2 ≤ stLen s
  | 0, _, _, _, h => by cases h
  | k + 1, l, s, r, h => by
    unfold pTerms at h
    split at h
    · rename_i h1
      have hs : stLen (lexW s.2) < stLen s := step_len (by rcases h1 with h1 | h1 <;> rw [h1] <;> simp)
      split at h
      · cases h
      · rename_i t s2 ht
        have h2 := pTerm_len ht
        have h3 := pTerms_len k h
        dsimp only at h2
        omega
    · injection h with h
      subst h
      exact Nat.le_refl _
theorem opV_nil {w : Src} (h : ¬ opV w < 0) : w ≠ [] := by rintro rfl; exact h (by decide)
theorem pCompare_len {s : St} {r : Cd × St} (h : pCompare s = some r) : stLen r.2 < stLen s := by
  unfold pCompare at h
  have h0 := pSign_len s
  split at h
  · cases h
  · rename_i t s2 ht
    have h1 := (pTerm_len ht).1
    split at h
    · cases h
    · rename_i l s3 hl
      have h2 := pTerms_len _ hl
      split at h
      · cases h
      · rename_i ho
        have h3 := step_len (opV_nil ho)
        split at h
        · cases h
        · rename_i n s5 hn
          injection h with h
          subst h
          have h4 := (pNum_len hn).1
          have h5 := pSign_len (lexW s3.2)
          dsimp only at *
          omega
theorem pMore_len {g : St → Option (Cd × St)} (hg : ∀ {s r}, g s = some r → stLen r.2 ≤ stLen s) {kd : Int} {kw : Src} : ∀ (k : Nat) {c : Cd} {s : St} {r : Cd × St}, kw ≠ [] → pMore g kd kw k c s = some r → stLen r.2 ≤ stLen s
  | 0, _, _, _, _, h => by cases h
  | k + 1, c, s, r, hw, h => by
    unfold pMore at h
    split at h
    · rename_i h1
      have hs : stLen (lexW s.2) < stLen s := step_len (by rw [h1]; exact hw)
      split at h
      · cases h
      · rename_i d s2 hd
        have h2 := hg hd
        have h3 := pMore_len hg k hw h
        dsimp only at h2
        omega
    · injection h with h
      subst h
      exact Nat.le_refl _
theorem pCond_len : ∀ (f least : Nat) {s : St} {r : Cd × St}, pCond f least s = some r → stLen r.2 ≤ stLen s
  | 0, _, _, _, h => by cases h
  | f + 1, least, s, r, h => by
    unfold pCond at h
    split at h
    · split at h
      · rename_i h1
        have hs : stLen (lexW s.2) < stLen s := step_len (by rw [h1]; simp [wNot])
        split at h
        · cases h
        · rename_i c s2 hc
          injection h with h
          subst h
          have := pCond_len f 3 hc
          dsimp only at *
          omega
      · split at h
        · rename_i h1
          have hs : stLen (lexW s.2) < stLen s := step_len (by rw [h1]; simp)
          split at h
          · cases h
          · rename_i c s2 hc
            split at h
            · cases h
            · rename_i s3 h3
              injection h with h
              subst h
              have := pCond_len f 1 hc
              have := pWant_len (by simp) h3
              dsimp only at *
              omega
        · exact Nat.le_of_lt (pCompare_len h)
    · split at h
      · cases h
      · rename_i c s2 hc
        have h1 := pCond_len f (least + 1) hc
        have h2 := pMore_len (g := pCond f (least + 1)) (fun {s r} => pCond_len f (least + 1)) _ (by split <;> simp [wAnd, wOr]) h
        dsimp only at *
        omega
theorem pRule_len {s : St} {r : Rl × St} (h : pRule s = some r) : stLen r.2 < stLen s ∧ r.1.1.length ≤ 16 := by
  unfold pRule at h
  split at h
  · cases h
  · rename_i s1 h1
    have g1 := pWant_len (by simp [wRule]) h1
    split at h
    · cases h
    · rename_i nm s2 h2
      have g2 := pName_len h2
      split at h
      · cases h
      · rename_i s3 h3
        have g3 := pWant_len (by simp) h3
        split at h
        · cases h
        · rename_i c s4 h4
          have g4 := pCond_len _ _ h4
          split at h
          · rename_i h5
            injection h with h
            subst h
            have g5 : stLen (lexW s4.2) < stLen s4 := step_len (by rw [h5]; simp)
            dsimp only at *
            exact ⟨by omega, g2.2⟩
          · cases h
end Pr
end Go.Proofs.YtonmpealebggoaaGreatDoor
namespace Go.Proofs.YtonmpealebggoaaGreatDoor
namespace Pr
/-! No colon and no semicolon within a name or a condition. -/
def Tame (l : Src) : Prop := ∀ x ∈ l, x ≠ 58 ∧ x ≠ 59
theorem tame_append {a b : Src} (ha : Tame a) (hb : Tame b) : Tame (a ++ b) := fun x hx => (List.mem_append.1 hx).elim (ha x) (hb x)
theorem tame_name {s : Src} (h : plainB s = true) : Tame s := by
  obtain ⟨c, r, rfl, h1, h2, _⟩ := plain_parts h
  have hl : ∀ x : UInt8, lowB x = true → x ≠ 58 ∧ x ≠ 59 := fun x hx => ⟨fun e => by subst e; exact absurd hx (by decide), fun e => by subst e; exact absurd hx (by decide)⟩
  have hn : ∀ x : UInt8, nmB x = true → x ≠ 58 ∧ x ≠ 59 := fun x hx => ⟨fun e => by subst e; exact absurd hx (by decide), fun e => by subst e; exact absurd hx (by decide)⟩
  intro x hx
  rcases List.mem_cons.1 hx with rfl | hx
  · exact hl _ h1
  · exact hn _ (List.all_eq_true.1 h2 x hx)
theorem tame_dec (u : Nat) : Tame (Lib.decDigits u) := by
  obtain ⟨c, r, h1, h2⟩ := dec_digits u
  intro x hx
  have := List.all_eq_true.1 h2 x (h1 ▸ hx)
  exact ⟨fun e => by subst e; exact absurd this (by decide), fun e => by subst e; exact absurd this (by decide)⟩
theorem tame_itoa (n : Int) : Tame (Lib.itoa n) := by
  unfold Lib.itoa
  split
  · exact tame_append (a := [45]) (by unfold Tame; decide) (tame_dec _)
  · exact tame_dec _
theorem tame_term {t : Tm} (h : TmOk t) (i : Nat) : Tame (termS i t) := by
  unfold termS
  refine tame_append (tame_append ?_ ?_) (tame_name h.nm)
  · split <;> split <;> unfold Tame <;> decide
  · split
    · exact tame_append (tame_itoa _) (by unfold Tame; decide)
    · unfold Tame; decide
theorem tame_terms : ∀ (l : List Tm) (i : Nat), (∀ t ∈ l, TmOk t) → Tame (termsS i l)
  | [], _, _ => fun x hx => by cases hx
  | t :: r, i, h => tame_append (tame_term (h t (by simp)) i) (tame_terms r (i + 1) fun x hx => h x (by simp [hx]))
theorem tame_op (c : Int) : Tame (opS c) := by
  unfold opS
  split
  · unfold Tame; decide
  split
  · unfold Tame; decide
  split
  · unfold Tame; decide
  split
  · unfold Tame; decide
  split <;> unfold Tame <;> decide
theorem tame_show : ∀ (f : Nat) (c : Cd) (least : Nat), VC f c → Tame (showF f c least)
  | 0, _, _, h => h.elim
  | f + 1, c, least, h => by
    have hb : Tame (bareS f c) := by
      unfold bareS
      rcases h with ⟨h0, hc⟩ | ⟨h1, a, e, ha⟩ | ⟨h2, a, b, e, ha, hb⟩
      · rw [if_pos h0]
        have hp := compare_parts hc
        unfold cmpS
        exact tame_append (tame_append (tame_terms _ _ hp.2.2.2.2.2.2.1) (tame_append (tame_append (by unfold Tame; decide) (tame_op _)) (by unfold Tame; decide))) (tame_itoa _)
      · have e0 : kid c 0 = a := by rw [e]; rfl
        rw [if_neg (by omega), if_pos h1, e0]
        exact tame_append (by unfold Tame; decide) (tame_show f a 3 ha)
      · have e0 : kid c 0 = a := by rw [e]; rfl
        have e1 : kid c 1 = b := by rw [e]; rfl
        rw [if_neg (by omega), if_neg (by omega), e0, e1]
        split
        · exact tame_append (tame_append (tame_show f a 2 ha) (by unfold Tame; decide)) (tame_show f b 3 hb)
        · exact tame_append (tame_append (tame_show f a 1 ha) (by unfold Tame; decide)) (tame_show f b 2 hb)
    rw [show_bare]
    split
    · exact tame_append (tame_append (by unfold Tame; decide) hb) (by unfold Tame; decide)
    · exact hb
/-! What is read ends where the text ends. -/
def txt (s : St) : Src := s.1 ++ s.2
theorem skipW_suf : ∀ l : Src, skipW l <:+ l
  | [] => List.suffix_refl _
  | c :: r => by
    rw [skipW]
    split
    · exact (skipW_suf r).trans (List.suffix_cons _ _)
    · exact List.suffix_refl _
theorem lexW_suf (l : Src) : txt (lexW l) <:+ l := by
  unfold txt lexW
  rw [wordF_eq]
  exact skipW_suf l
theorem step_suf (s : St) : txt (lexW s.2) <:+ txt s := (lexW_suf s.2).trans (List.suffix_append _ _)
theorem pSign_suf (s : St) : txt (pSign s).2 <:+ txt s := by
  unfold pSign
  split
  · exact step_suf s
  · exact List.suffix_refl _
theorem pNum_suf {m : Int} {s : St} {r : Int × St} (h : pNum m s = some r) : txt r.2 <:+ txt s := by
  unfold pNum at h
  split at h
  · injection h with h; subst h; exact step_suf s
  · cases h
theorem pName_suf {s : St} {r : Src × St} (h : pName s = some r) : txt r.2 <:+ txt s := by
  unfold pName at h
  split at h
  · injection h with h; subst h; exact step_suf s
  · cases h
theorem pWant_suf {w : Src} {s s2 : St} (h : pWant w s = some s2) : txt s2 <:+ txt s := by
  unfold pWant at h
  split at h
  · injection h with h; subst h; exact step_suf s
  · cases h
theorem pTerm_suf {sg : Int} {s : St} {r : Tm × St} (h : pTerm sg s = some r) : txt r.2 <:+ txt s := by
  unfold pTerm at h
  split at h
  · split at h
    · cases h
    · rename_i n s2 hn
      split at h
      · cases h
      · rename_i nm s3 hm
        injection h with h
        subst h
        exact (pName_suf hm).trans (pNum_suf hn)
  · split at h
    · cases h
    · rename_i nm s3 hm
      injection h with h
      subst h
      exact pName_suf hm
theorem pTerms_suf : ∀ (k : Nat) {l : List Tm} {s : St} {r : List Tm × St}, pTerms k l s = some r → txt r.2 <:+ txt s
  | 0, _, _, _, h => by cases h
  | k + 1, l, s, r, h => by
    unfold pTerms at h
    split at h
    · split at h
      · cases h
      · rename_i t s2 ht
        exact (pTerms_suf k h).trans ((pTerm_suf ht).trans (step_suf s))
    · injection h with h
      subst h
      exact List.suffix_refl _
theorem pCompare_suf {s : St} {r : Cd × St} (h : pCompare s = some r) : txt r.2 <:+ txt s := by
  unfold pCompare at h
  split at h
  · cases h
  · rename_i t s2 ht
    split at h
    · cases h
    · rename_i l s3 hl
      split at h
      · cases h
      · split at h
        · cases h
        · rename_i n s5 hn
          injection h with h
          subst h
          exact (pNum_suf hn).trans ((pSign_suf _).trans ((step_suf s3).trans ((pTerms_suf _ hl).trans ((pTerm_suf ht).trans (pSign_suf s)))))
theorem pMore_suf {g : St → Option (Cd × St)} (hg : ∀ {s r}, g s = some r → txt r.2 <:+ txt s) {kd : Int} {kw : Src} : ∀ (k : Nat) {c : Cd} {s : St} {r : Cd × St}, pMore g kd kw k c s = some r → txt r.2 <:+ txt s
  | 0, _, _, _, h => by cases h
  | k + 1, c, s, r, h => by
    unfold pMore at h
    split at h
    · split at h
      · cases h
      · rename_i d s2 hd
        exact (pMore_suf hg k h).trans ((hg hd).trans (step_suf s))
    · injection h with h
      subst h
      exact List.suffix_refl _
theorem pCond_suf : ∀ (f least : Nat) {s : St} {r : Cd × St}, pCond f least s = some r → txt r.2 <:+ txt s
  | 0, _, _, _, h => by cases h
  | f + 1, least, s, r, h => by
    unfold pCond at h
    split at h
    · split at h
      · split at h
        · cases h
        · rename_i c s2 hc
          injection h with h
          subst h
          exact (pCond_suf f 3 hc).trans (step_suf s)
      · split at h
        · split at h
          · cases h
          · rename_i c s2 hc
            split at h
            · cases h
            · rename_i s3 h3
              injection h with h
              subst h
              exact (pWant_suf h3).trans ((pCond_suf f 1 hc).trans (step_suf s))
        · exact pCompare_suf h
    · split at h
      · cases h
      · rename_i c s2 hc
        exact (pMore_suf (g := pCond f (least + 1)) (fun {s r} => pCond_suf f (least + 1)) _ h).trans (pCond_suf f (least + 1) hc)
/-- A rule that is read has a semicolon. -/
theorem pRule_semi {s : St} {r : Rl × St} (h : pRule s = some r) : (59 : UInt8) ∈ txt s := by
  unfold pRule at h
  split at h
  · cases h
  · rename_i s1 h1
    split at h
    · cases h
    · rename_i nm s2 h2
      split at h
      · cases h
      · rename_i s3 h3
        split at h
        · cases h
        · rename_i c s4 h4
          split at h
          · rename_i h5
            have := (pCond_suf _ _ h4).trans ((pWant_suf h3).trans ((pName_suf h2).trans (pWant_suf h1)))
            exact this.subset (by unfold txt; rw [h5]; simp)
          · cases h
/-! A line without its end. -/
def headS (r : Rl) : Src := wRule ++ [32] ++ r.1 ++ [58, 32] ++ showF 12 r.2 0
theorem line_head (r : Rl) : lineS r = headS r ++ [59, 10] := by simp [lineS, headS, List.append_assoc]
theorem head_semi {r : Rl} (h : RlOk r) : (59 : UInt8) ∉ headS r := by
  intro hx
  have h1 : ∀ x ∈ headS r, x ≠ 59 := by
    intro x hx
    unfold headS at hx
    rcases List.mem_append.1 hx with hx | hx
    · rcases List.mem_append.1 hx with hx | hx
      · rcases List.mem_append.1 hx with hx | hx
        · exact (by decide : ∀ y ∈ wRule ++ [32], y ≠ 59) x hx
        · exact (tame_name h.nm x hx).2
      · exact (by decide : ∀ y ∈ ([58, 32] : Src), y ≠ 59) x hx
    · exact (tame_show 12 r.2 0 h.cd x hx).2
  exact h1 _ hx rfl
theorem rule_read2 {r : Rl} (h : RlOk r) (t : Src) : pRule (lexW (headS r ++ (59 :: t))) = some (r, lexW t) := by
  have hT : headS r ++ (59 :: t) = wRule ++ (32 :: (r.1 ++ (58 :: (32 :: (showF 12 r.2 0 ++ (59 :: t)))))) := by simp [headS, List.append_assoc]
  rw [hT, lexW_rule]
  unfold pRule pWant
  dsimp only
  rw [if_pos rfl]
  dsimp only
  rw [lexW_sp, lexW_name h.nm (good_cons _ rfl)]
  unfold pName
  dsimp only
  rw [if_pos h.nm]
  dsimp only
  rw [lexW_colon]
  dsimp only
  rw [if_pos rfl]
  dsimp only
  rw [lexW_sp, cond_read h.cd (good_cons _ rfl) (by rw [lexW_semi]; exact (by decide : ([59] : Src) ≠ wAnd)) (by rw [lexW_semi]; exact (by decide : ([59] : Src) ≠ wOr))]
  dsimp only
  rw [lexW_semi, if_pos rfl]
theorem count_print : ∀ l : List Rl, (∀ r ∈ l, RlOk r) → (printS l).count 59 = l.length
  | [], _ => rfl
  | r :: l, h => by
    have h1 := count_print l fun x hx => h x (by simp [hx])
    have h2 : (headS r).count 59 = 0 := List.count_eq_zero.2 (head_semi (h r (by simp)))
    have h3 : printS (r :: l) = headS r ++ [59, 10] ++ printS l := by rw [← line_head]; rfl
    rw [h3, List.count_append, List.count_append, h1, h2, List.length_cons]
    have : ([59, 10] : Src).count 59 = 1 := by decide
    omega
theorem cut : ∀ (l : List Rl) (n : Nat), ∃ j u, j ≤ l.length ∧ (printS l).take n = printS (l.take j) ++ u ∧ (u = [] ∨ (∃ r, l[j]? = some r ∧ u ≠ [] ∧ (u <+: headS r ∨ u = headS r ++ [59])))
  | [], n => ⟨0, [], Nat.le_refl _, by simp [printS], .inl rfl⟩
  | r :: l, n => by
    have h3 : printS (r :: l) = lineS r ++ printS l := rfl
    have hl : (lineS r).length = (headS r).length + 2 := by rw [line_head, List.length_append]; rfl
    by_cases hn : (lineS r).length ≤ n
    · obtain ⟨j, u, h1, h2, h4⟩ := cut l (n - (lineS r).length)
      refine ⟨j + 1, u, by simpa using h1, ?_, by simpa using h4⟩
      rw [h3, List.take_append, List.take_of_length_le hn, h2]
      simp [printS, List.append_assoc]
    · by_cases h0 : n = 0
      · subst h0
        exact ⟨0, [], Nat.zero_le _, by simp [printS], .inl rfl⟩
      refine ⟨0, (lineS r).take n, Nat.zero_le _, ?_, .inr ⟨r, rfl, ?_, ?_⟩⟩
      · rw [h3, List.take_append_of_le_length (by omega)]
        simp [printS]
      · intro e
        have := congrArg List.length e
        rw [List.length_take, List.length_nil] at this
        omega
      · by_cases h5 : n ≤ (headS r).length
        · left
          rw [line_head, List.take_append_of_le_length h5]
          exact List.take_prefix _ _
        · right
          have : n = (headS r).length + 1 := by omega
          rw [line_head, this, List.take_append, List.take_of_length_le (by omega)]
          simp
theorem lexW_head {r : Rl} {u : Src} (h : u <+: headS r ++ [59]) (hu : u ≠ []) : (lexW u).1 ≠ [] := by
  cases u with
  | nil => exact absurd rfl hu
  | cons c u =>
    have hc : c = 114 := by
      obtain ⟨t, ht⟩ := h
      have : (headS r ++ [59])[0]? = some 114 := by simp [headS, wRule]
      rw [← ht] at this
      simpa using this
    subst hc
    unfold lexW
    rw [skipW, if_neg (by decide)]
    exact wordF_ne (by simp)
/-- What is read of a text of rules that is cut off. -/
theorem cut_parse {l : List Rl} (h : ∀ r ∈ l, RlOk r) (n : Nat) {m : List Rl} (hm : parseS ((printS l).take n) = some m) : m = l.take m.length ∧ m.length = ((printS l).take n).count 59 := by
  obtain ⟨j, u, hj, e, hu⟩ := cut l n
  have hlt : (l.take j).length = j := by rw [List.length_take]; omega
  have hok : ∀ r ∈ l.take j, RlOk r := fun r hr => h r (List.mem_of_mem_take hr)
  have hp := print_len (l.take j)
  rw [hlt] at hp
  have hcl := count_print _ hok
  rw [hlt] at hcl
  rw [e] at hm ⊢
  unfold parseS at hm
  rw [List.count_append, hcl]
  have hr := pRules_read (l.take j) hok u ((printS (l.take j) ++ u).length + 1 - j) []
  rw [hlt, List.nil_append, show (printS (l.take j) ++ u).length + 1 - j + j = (printS (l.take j) ++ u).length + 1 by rw [List.length_append]; omega] at hr
  rw [hr] at hm
  clear hr
  rcases hu with rfl | ⟨r, hr, hne, hu⟩
  · obtain ⟨q, hq⟩ : ∃ q, (printS (l.take j) ++ []).length + 1 - j = q + 1 := ⟨(printS (l.take j)).length - j, by rw [List.append_nil]; omega⟩
    rw [hq, lexW_nil] at hm
    simp only [pRules] at hm
    rw [if_pos trivial] at hm
    injection hm with hm
    subst hm
    rw [hlt]
    exact ⟨rfl, rfl⟩
  · have hul : 0 < u.length := List.length_pos_iff.2 hne
    obtain ⟨q, hq⟩ : ∃ q, (printS (l.take j) ++ u).length + 1 - j = q + 2 := ⟨(printS (l.take j)).length + u.length - 1 - j, by rw [List.length_append]; omega⟩
    have hrm : RlOk r := h r (List.mem_of_getElem? hr)
    have hfirst : (lexW u).1 ≠ [] := lexW_head (r := r) (by
      rcases hu with hu | rfl
      · exact hu.trans (List.prefix_append _ _)
      · exact List.prefix_refl _) hne
    rw [hq] at hm
    rw [pRules, if_neg hfirst] at hm
    rcases hu with hu | rfl
    · have hno : pRule (lexW u) = none := by
        cases hh : pRule (lexW u) with
        | none => rfl
        | some x => exact absurd (hu.subset ((lexW_suf u).subset (pRule_semi hh))) (head_semi hrm)
      rw [hno] at hm
      cases hm
    · rw [rule_read2 hrm []] at hm
      dsimp only at hm
      rw [lexW_nil, pRules, if_pos rfl] at hm
      injection hm with hm
      have hc : (headS r ++ [59]).count 59 = 1 := by
        rw [List.count_append, List.count_eq_zero.2 (head_semi hrm)]
        decide
      have hj2 : j < l.length := (List.getElem?_eq_some_iff.1 hr).1
      have hm2 : m = l.take (j + 1) := by rw [← hm, List.take_add_one, hr]; rfl
      have hlm : m.length = j + 1 := by rw [hm2, List.length_take]; omega
      rw [hc, hlm]
      exact ⟨hm2, rfl⟩
/-- Rules before others are in order if all are. -/
theorem rules_pre : ∀ {pre l m : List Rl}, rulesE pre (l ++ m) = 0 → rulesE pre l = 0
  | _, [], _, _ => rfl
  | pre, x :: l, m, h => by
    simp only [List.cons_append, rulesE] at h ⊢
    by_cases e : ruleE pre x ≠ 0
    · rw [if_pos e] at h; exact absurd h e
    · rw [if_neg e] at h ⊢
      exact rules_pre h
theorem check_take {l : List Rl} (h : checkE l = 0) (j : Nat) : checkE (l.take j) = 0 := by
  obtain ⟨h1, h2, h3⟩ := check_ok h
  have e : l.take j ++ l.drop j = l := List.take_append_drop j l
  have h4 : rulesE [] (l.take j) = 0 := rules_pre (m := l.drop j) (by rw [e]; exact h2)
  have h5 : (printS (l.take j)).length ≤ (printS l).length := by
    have : printS l = printS (l.take j) ++ printS (l.drop j) := by unfold printS; rw [← List.flatMap_append, e]
    rw [this, List.length_append]; omega
  have h6 : (l.take j).length ≤ l.length := by rw [List.length_take]; omega
  unfold checkE
  rw [if_neg (by omega), if_neg (by rw [h4]; simp), if_neg (by omega)]
end Pr
end Go.Proofs.YtonmpealebggoaaGreatDoor
namespace Go.Proofs.YtonmpealebggoaaGreatDoor
namespace Pr
/-! What ReplaceAll makes of a text. -/
theorem index_free {c : UInt8} {o t : Src} : ∀ {p : Src}, c ∉ p → Lib.index (p ++ (c :: o ++ t)) (c :: o) = (p.length : Int)
  | [], _ => by
    show Lib.index (c :: (o ++ t)) (c :: o) = 0
    unfold Lib.index
    rw [if_pos (by simp)]
  | x :: p, h => by
    have hx : c ≠ x := fun e => h (by simp [e])
    have ih := index_free (c := c) (o := o) (t := t) (p := p) (fun e => h (by simp [e]))
    show Lib.index (x :: (p ++ (c :: o ++ t))) (c :: o) = _
    unfold Lib.index
    rw [if_neg (by simp [List.isPrefixOf, hx]), ih, if_neg (by rw [beq_iff_eq]; omega)]
    simp
theorem index_miss {c : UInt8} {o : Src} : ∀ {p : Src}, c ∉ p → Lib.index p (c :: o) = -1
  | [], _ => rfl
  | x :: p, h => by
    have hx : c ≠ x := fun e => h (by simp [e])
    have ih := index_miss (c := c) (o := o) (p := p) (fun e => h (by simp [e]))
    unfold Lib.index
    rw [if_neg (by simp [List.isPrefixOf, hx]), ih]
    rfl
theorem replace_hit {c : UInt8} {o new p t : Src} (hn : c :: o ≠ new) (h : c ∉ p) : Lib.replaceAll (p ++ (c :: o ++ t)) (c :: o) new = p ++ new ++ Lib.replaceAll t (c :: o) new := by
  have hi := index_free (o := o) (t := t) h
  have hc := Lib.count_hit (sub := c :: o) (by simp) hi
  have hd : (p ++ (c :: o ++ t)).drop (p.length + (c :: o).length) = t := by rw [← List.drop_drop, List.drop_left, List.drop_left]
  have hne : (c :: o == new) = false := by rw [beq_eq_false_iff_ne]; exact hn
  have key : ∀ s : Src, Lib.replaceAll s (c :: o) new = Lib.replaceK (c :: o) new (Lib.count s (c :: o)) s := by
    intro s
    unfold Lib.replaceAll Lib.replace Lib.replaceNum
    rw [if_neg (by rw [hne]; decide), if_pos (.inl (by decide))]
  rw [key, key, hc, hd, Nat.add_comm, Lib.replaceK_hit _ _ _ _ _ hi, hd, List.take_left]
theorem replace_miss {c : UInt8} {o new p : Src} (h : c ∉ p) : Lib.replaceAll p (c :: o) new = p := by
  have hi := index_miss (o := o) h
  unfold Lib.replaceAll Lib.replace Lib.replaceNum
  split
  · rfl
  · rw [if_pos (.inl (by decide)), Lib.count_miss hi]; rfl
/-! The text with m pairs of parentheses around each condition. -/
def opn (m : Nat) : Src := Lib.repeatL [40, 32, 10] m
def cls' (m : Nat) : Src := Lib.repeatL [32, 41] m
def preS (r : Rl) : Src := wRule ++ [32] ++ r.1
def midS (m : Nat) (r : Rl) : Src := preS r ++ ([32, 58] ++ opn m) ++ (showF 12 r.2 0 ++ [59, 10])
def wideS (m : Nat) (r : Rl) : Src := preS r ++ ([32, 58] ++ opn m) ++ (showF 12 r.2 0 ++ (cls' m ++ [10, 32, 59]) ++ [10])
def widS (m : Nat) (l : List Rl) : Src := l.flatMap (wideS m)
theorem pre_tame {r : Rl} (h : RlOk r) : Tame (preS r) := tame_append (by unfold Tame; decide) (tame_name h.nm)
theorem rep_tame {l : Src} (h : Tame l) : ∀ m, Tame (Lib.repeatL l m)
  | 0 => fun x hx => by cases hx
  | m + 1 => tame_append h (rep_tame h m)
theorem rep_colon (m : Nat) : ∀ (l : List Rl), (∀ r ∈ l, RlOk r) → Lib.replaceAll (printS l) [58, 32] ([32, 58] ++ opn m) = l.flatMap (midS m)
  | [], _ => by
    show Lib.replaceAll [] _ _ = []
    exact replace_miss (by simp)
  | r :: l, h => by
    have ih := rep_colon m l fun x hx => h x (by simp [hx])
    have hr := h r (by simp)
    have h58 : (58 : UInt8) ∉ preS r := fun hx => (pre_tame hr _ hx).1 rfl
    have hs58 : (58 : UInt8) ∉ showF 12 r.2 0 ++ [59, 10] := by
      intro hx
      rcases List.mem_append.1 hx with hx | hx
      · exact (tame_show 12 r.2 0 hr.cd _ hx).1 rfl
      · exact absurd hx (by decide)
    have hne : ([58, 32] : Src) ≠ [32, 58] ++ opn m := by intro e; injection e with e; exact absurd e (by decide)
    have e : printS (r :: l) = preS r ++ (58 :: [32] ++ (showF 12 r.2 0 ++ [59, 10] ++ printS l)) := by simp [printS, lineS, preS, List.append_assoc]
    rw [e, replace_hit hne h58]
    have key : ∀ q : Src, (58 : UInt8) ∉ q → ∀ l : List Rl, (∀ r ∈ l, RlOk r) → Lib.replaceAll (printS l) [58, 32] ([32, 58] ++ opn m) = l.flatMap (midS m) → Lib.replaceAll (q ++ printS l) [58, 32] ([32, 58] ++ opn m) = q ++ l.flatMap (midS m) := by
      intro q hq l hl hi
      cases l with
      | nil => simp only [printS, List.flatMap_nil, List.append_nil]; exact replace_miss hq
      | cons r l =>
        have h58 : (58 : UInt8) ∉ preS r := fun hx => (pre_tame (hl r (by simp)) _ hx).1 rfl
        have e : printS (r :: l) = preS r ++ (58 :: [32] ++ (showF 12 r.2 0 ++ [59, 10] ++ printS l)) := by simp [printS, lineS, preS, List.append_assoc]
        rw [e, replace_hit hne h58] at hi
        rw [e, ← List.append_assoc, replace_hit hne (p := q ++ preS r) (by intro hx; exact (List.mem_append.1 hx).elim hq h58), List.append_assoc q, List.append_assoc q, hi]
    rw [key _ hs58 l (fun x hx => h x (by simp [hx])) ih]
    simp [midS, List.append_assoc]
theorem rep_semi (m : Nat) : ∀ (l : List Rl), (∀ r ∈ l, RlOk r) → ∀ q : Src, (59 : UInt8) ∉ q → Lib.replaceAll (q ++ l.flatMap (midS m)) [59] (cls' m ++ [10, 32, 59]) = q ++ widS m l
  | [], _, q, hq => by
    simp only [List.flatMap_nil, List.append_nil, widS]
    exact replace_miss hq
  | r :: l, h, q, hq => by
    have hr := h r (by simp)
    have ih := rep_semi m l (fun x hx => h x (by simp [hx])) [10] (by decide)
    have hp : (59 : UInt8) ∉ preS r := fun hx => (pre_tame hr _ hx).2 rfl
    have ho : (59 : UInt8) ∉ opn m := fun hx => (rep_tame (by unfold Tame; decide) m _ hx).2 rfl
    have hs : (59 : UInt8) ∉ showF 12 r.2 0 := fun hx => (tame_show 12 r.2 0 hr.cd _ hx).2 rfl
    have hne : ([59] : Src) ≠ cls' m ++ [10, 32, 59] := by
      intro e
      have := congrArg List.length e
      simp at this
    have e : q ++ (r :: l).flatMap (midS m) = (q ++ preS r ++ ([32, 58] ++ opn m) ++ showF 12 r.2 0) ++ (59 :: [] ++ ([10] ++ l.flatMap (midS m))) := by simp [midS, List.append_assoc]
    rw [e, replace_hit hne (by
      intro hx
      rcases List.mem_append.1 hx with hx | hx
      · rcases List.mem_append.1 hx with hx | hx
        · exact (List.mem_append.1 hx).elim hq hp
        · rcases List.mem_append.1 hx with hx | hx
          · exact absurd hx (by decide)
          · exact ho hx
      · exact hs hx), ih]
    simp [widS, wideS, List.append_assoc]
/-- Both replacements. -/
theorem wide_text (m : Nat) {l : List Rl} (h : ∀ r ∈ l, RlOk r) : Lib.replaceAll (Lib.replaceAll (printS l) [58, 32] ([32, 58] ++ opn m)) [59] (cls' m ++ [10, 32, 59]) = widS m l := by
  rw [rep_colon m l h]
  exact rep_semi m l h [] (by simp)
/-! Reading it. -/
theorem R3_wide {c : Cd} {T : Src} (h : RL 1 c T) : R3 c ([40, 32, 10] ++ T ++ [32, 41]) := by
  intro r hr f hf
  have hT : [40, 32, 10] ++ T ++ [32, 41] ++ r = 40 :: (32 :: (10 :: (T ++ (32 :: (41 :: r))))) := by simp [List.append_assoc]
  rw [hT, lexW_open] at hf ⊢
  obtain ⟨f', rfl⟩ : ∃ f', f = f' + 1 := ⟨f - 1, by omega⟩
  have h1 := lexW_len (T ++ (32 :: (41 :: r)))
  simp only [stLen, List.length_cons, List.length_nil] at hf h1
  rw [pCond_par, lexW_sp, lexW_lf, h (32 :: (41 :: r)) (good_sp _) (by rw [lexW_sp, lexW_shut]; exact (by decide : ([41] : Src) ≠ wAnd)) (fun _ => by rw [lexW_sp, lexW_shut]; exact (by decide : ([41] : Src) ≠ wOr)) f' (by simp only [stLen]; omega)]
  dsimp only
  rw [lexW_sp, lexW_shut]
  rfl
theorem RL_wide {c : Cd} {T : Src} (h : RL 1 c T) : ∀ m, RL 1 c (opn m ++ T ++ cls' m)
  | 0 => by simpa [opn, cls', Lib.repeatL] using h
  | m + 1 => by
    have ih := R3_wide (RL_wide h m)
    have e : opn (m + 1) ++ T ++ cls' (m + 1) = [40, 32, 10] ++ (opn m ++ T ++ cls' m) ++ [32, 41] := by
      have e1 : cls' (m + 1) = cls' m ++ [32, 41] := by unfold cls'; rw [Lib.repeatL_add, Lib.repeatL_one]
      rw [e1]
      simp [opn, Lib.repeatL, List.append_assoc]
    rw [e]
    have s2 := SP_of_R (least := 2) (.inr rfl) (fun _ => ih) (fun h => absurd h (by decide))
    have r2 := RL_of_SP (.inr rfl) s2
    exact RL_of_SP (.inl rfl) (SP_of_R (least := 1) (.inl rfl) (fun h => absurd h (by decide)) fun _ => r2)
theorem show_least {f : Nat} {c : Cd} (h : VC f c) : showF f c 0 = showF f c 1 := by
  cases f with
  | zero => exact h.elim
  | succ f =>
    have hl : 1 ≤ lev c.kind := by unfold lev; split; omega; split <;> omega
    rw [show_bare, show_bare, if_neg (by omega), if_neg (by omega)]
theorem wide_read {r : Rl} (h : RlOk r) (m : Nat) (t : Src) : pRule (lexW (wideS m r ++ t)) = some (r, lexW t) := by
  have hT : wideS m r ++ t = wRule ++ (32 :: (r.1 ++ (32 :: (58 :: ((opn m ++ showF 12 r.2 1 ++ cls' m) ++ (10 :: (32 :: (59 :: (10 :: t))))))))) := by
    rw [← show_least h.cd]
    simp [wideS, preS, List.append_assoc]
  have hc := RL_wide (all_read 12 r.2 h.cd).r1 m
  rw [hT, lexW_rule]
  unfold pRule pWant
  dsimp only
  rw [if_pos rfl]
  dsimp only
  rw [lexW_sp, lexW_name h.nm (good_sp _)]
  unfold pName
  dsimp only
  rw [if_pos h.nm]
  dsimp only
  rw [lexW_sp, lexW_colon]
  dsimp only
  rw [if_pos rfl]
  dsimp only
  rw [hc (10 :: (32 :: (59 :: (10 :: t)))) (good_cons _ rfl) (by rw [lexW_lf, lexW_sp, lexW_semi]; exact (by decide : ([59] : Src) ≠ wAnd)) (fun _ => by rw [lexW_lf, lexW_sp, lexW_semi]; exact (by decide : ([59] : Src) ≠ wOr)) _ (by unfold workN; omega)]
  dsimp only
  rw [lexW_lf, lexW_sp, lexW_semi, if_pos rfl]
  dsimp only
  rw [lexW_lf]
theorem wides_read (m : Nat) : ∀ (l : List Rl), (∀ r ∈ l, RlOk r) → ∀ (k : Nat) (acc : List Rl), pRules (k + l.length + 1) acc (lexW (widS m l)) = some (acc ++ l)
  | [], _, k, acc => by simp [widS, lexW_nil, pRules]
  | r :: l, h, k, acc => by
    have hr := wide_read (h r (by simp)) m (widS m l)
    have ih := wides_read m l (fun x hx => h x (by simp [hx])) k (acc ++ [r])
    have hT : widS m (r :: l) = wideS m r ++ widS m l := rfl
    have hne : (lexW (wideS m r ++ widS m l)).1 ≠ [] := by
      have : wideS m r ++ widS m l = wRule ++ (32 :: (r.1 ++ ([32, 58] ++ opn m) ++ (showF 12 r.2 0 ++ (cls' m ++ [10, 32, 59]) ++ [10]) ++ widS m l)) := by simp [wideS, preS, List.append_assoc]
      rw [this, lexW_rule]; exact (by decide : wRule ≠ [])
    rw [hT, List.length_cons, pRules, if_neg hne, hr]
    dsimp only
    rw [show k + (l.length + 1) = k + l.length + 1 by omega, ih, List.append_assoc]
    rfl
theorem wide_len (m : Nat) (r : Rl) : (wideS m r).length = (lineS r).length + 5 * m + 2 := by
  simp only [wideS, lineS, preS, opn, cls', List.length_append, Lib.repeatL_length, List.length_cons, List.length_nil]
  omega
theorem wid_len (m : Nat) : ∀ l : List Rl, (widS m l).length = (printS l).length + l.length * (5 * m + 2)
  | [] => by simp [widS, printS]
  | r :: l => by
    have h1 := wid_len m l
    have h2 := wide_len m r
    simp only [widS, printS, List.flatMap_cons, List.length_append, List.length_cons] at h1 ⊢
    rw [Nat.succ_mul]
    omega
/-- The wider text is read as the same rules. -/
theorem parse_wide {l : List Rl} (h : ∀ r ∈ l, RlOk r) (m : Nat) : parseS ([10, 32] ++ widS m l) = some l := by
  have h1 := wides_read m l h ((widS m l).length + 2 - l.length) []
  have h2 := wid_len m l
  have h3 := print_len l
  have h4 : 10 :: 32 :: widS m l = [10, 32] ++ widS m l := rfl
  unfold parseS
  rw [← h4, lexW_lf, lexW_sp]
  rw [show (10 :: 32 :: widS m l).length + 1 = (widS m l).length + 2 - l.length + l.length + 1 by simp only [List.length_cons]; omega]
  rw [h1]
  rfl
end Pr
end Go.Proofs.YtonmpealebggoaaGreatDoor
