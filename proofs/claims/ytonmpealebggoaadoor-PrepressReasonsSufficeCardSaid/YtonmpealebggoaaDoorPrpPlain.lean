/- Rules for pages in plain words: what they are, their first error, their text, how a text is read, what facts tell of them. No program is in sight here. -/
import Derived.Lib.ItoaNum
import Derived.Lib.AtoiAll
namespace Go.Proofs.YtonmpealebggoaaDoor
namespace Pr
abbrev Src := List UInt8
def lowB (c : UInt8) : Bool := decide (97 ≤ c.toNat ∧ c.toNat ≤ 122)
def digB (c : UInt8) : Bool := decide (48 ≤ c.toNat ∧ c.toNat ≤ 57)
/-- A byte of a name behind the first one. -/
def nmB (c : UInt8) : Bool := lowB c || digB c || c == 45
def wRule : Src := [114, 117, 108, 101]
def wNot : Src := [110, 111, 116]
def wAnd : Src := [97, 110, 100]
def wOr : Src := [111, 114]
def plainB : Src → Bool
  | [] => false
  | c :: r => lowB c && r.all nmB && decide ((c :: r).length ≤ 16) && !(c :: r == wRule || c :: r == wNot || c :: r == wAnd || c :: r == wOr)
/-- A factor and a fact's name. -/
abbrev Tm := Int × Src
/-- A condition: its kind (0 a comparison, 1 not, 2 and, 3 or), terms, comparison, number, kids. -/
inductive Cd where
  | mk (kind : Int) (terms : List Tm) (cmp than : Int) (kids : List Cd)
def Cd.kind : Cd → Int | .mk k _ _ _ _ => k
def Cd.terms : Cd → List Tm | .mk _ t _ _ _ => t
def Cd.cmp : Cd → Int | .mk _ _ c _ _ => c
def Cd.than : Cd → Int | .mk _ _ _ n _ => n
def Cd.kids : Cd → List Cd | .mk _ _ _ _ ks => ks
abbrev Rl := Src × Cd
/-- The first error of a term behind others. -/
def termE (pre : List Tm) (t : Tm) : Int :=
  if t.1 = 0 ∨ t.1 < -1000 ∨ 1000 < t.1 then 3 else if plainB t.2 = false then 6 else if pre.any (fun x => x.2 == t.2) = true then 7 else 0
def termsE : List Tm → List Tm → Int
  | _, [] => 0
  | pre, t :: r => if termE pre t ≠ 0 then termE pre t else termsE (pre ++ [t]) r
/-- The first error of a comparison. -/
def compareE (c : Cd) : Int :=
  if 0 < c.kids.length then 4 else if c.terms.length = 0 then 8 else if 8 < c.terms.length then 2 else if c.cmp < 0 ∨ 5 < c.cmp then 14
  else if c.than < -2147483648 ∨ 2147483648 < c.than then 3 else termsE [] c.terms
/-- The first error of kids, and how many conditions were met. -/
def kidsF (g : Nat → Cd → Int × Nat) : Nat → List Cd → Int × Nat
  | n, [] => (0, n)
  | n, k :: r => if (g n k).1 ≠ 0 then g n k else kidsF g (g n k).2 r
/-- The first error of a condition at depth 13 - f, and how many conditions were met, n before. -/
def condF : Nat → Nat → Cd → Int × Nat
  | 0, n, _ => (if 256 < n + 1 then 2 else 15, n + 1)
  | f + 1, n, c =>
    if 256 < n + 1 then (2, n + 1)
    else if c.kind = 0 then (compareE c, n + 1)
    else if c.kind < 1 ∨ 3 < c.kind then (14, n + 1)
    else if 0 < c.terms.length ∨ c.cmp ≠ 0 ∨ c.than ≠ 0 ∨ (c.kids.length : Int) ≠ (if c.kind = 1 then 1 else 2) then (4, n + 1)
    else kidsF (condF f) (n + 1) c.kids
def lev (kind : Int) : Nat := if kind = 2 then 2 else if kind = 3 then 1 else 3
/-- A term's text: i terms stand before it. -/
def termS (i : Nat) (t : Tm) : Src :=
  (if 0 < i then (if t.1 < 0 then [32, 45, 32] else [32, 43, 32]) else if t.1 < 0 then [45] else []) ++ (if t.1.natAbs ≠ 1 then Lib.itoa t.1.natAbs ++ [32] else []) ++ t.2
def termsS : Nat → List Tm → Src
  | _, [] => []
  | i, t :: r => termS i t ++ termsS (i + 1) r
def opS (c : Int) : Src := if c = 0 then [60] else if c = 1 then [60, 61] else if c = 2 then [61] else if c = 3 then [33, 61] else if c = 4 then [62, 61] else [62]
def kid (c : Cd) (i : Nat) : Cd := c.kids.getD i (.mk 0 [] 0 0 [])
/-- A condition's text; f bounds the depth. -/
def showF : Nat → Cd → Nat → Src
  | 0, _, _ => []
  | f + 1, c, least =>
    let s := if c.kind = 0 then termsS 0 c.terms ++ ([32] ++ opS c.cmp ++ [32]) ++ Lib.itoa c.than
      else if c.kind = 1 then wNot ++ [32] ++ showF f (kid c 0) 3
      else if c.kind = 2 then showF f (kid c 0) 2 ++ ([32] ++ wAnd ++ [32]) ++ showF f (kid c 1) 3
      else showF f (kid c 0) 1 ++ ([32] ++ wOr ++ [32]) ++ showF f (kid c 1) 2
    if lev c.kind < least then [40] ++ s ++ [41] else s
/-- A rule's line. -/
def lineS (r : Rl) : Src := wRule ++ [32] ++ r.1 ++ [58, 32] ++ showF 12 r.2 0 ++ [59, 10]
def printS (l : List Rl) : Src := l.flatMap lineS
/-- The first error of a rule behind others. -/
def ruleE (pre : List Rl) (r : Rl) : Int :=
  if plainB r.1 = false then 6 else if pre.any (fun x => x.1 == r.1) = true then 7 else (condF 12 0 r.2).1
def rulesE : List Rl → List Rl → Int
  | _, [] => 0
  | pre, r :: l => if ruleE pre r ≠ 0 then ruleE pre r else rulesE (pre ++ [r]) l
/-- The first error of rules. -/
def checkE (l : List Rl) : Int := if 32 < l.length then 2 else if rulesE [] l ≠ 0 then rulesE [] l else if 4096 < (printS l).length then 2 else 0
/-! Reading. -/
def cls (c : UInt8) : Nat := if lowB c = true ∨ digB c = true then 1 else if c = 60 ∨ c = 62 ∨ c = 61 ∨ c = 33 then 2 else 0
def goesOn (k : Nat) (c : UInt8) : Bool := cls c == k || (k == 1 && c == 45)
def wsB (c : UInt8) : Bool := c == 32 || c == 10
/-- The rest behind spaces and line feeds. -/
def skipW : Src → Src
  | [] => []
  | c :: r => if wsB c = true then skipW r else c :: r
/-- How many bytes of a word stand behind its first one. -/
def runN (k : Nat) : Src → Nat
  | [] => 0
  | c :: r => if goesOn k c = true then runN k r + 1 else 0
/-- A word and what is behind it. -/
abbrev St := Src × Src
def wordF : Src → St
  | [] => ([], [])
  | c :: r => if cls c = 0 then ([c], r) else (c :: r.take (runN (cls c) r), r.drop (runN (cls c) r))
def lexW (l : Src) : St := wordF (skipW l)
def numV (most : Int) (w : Src) : Option Int :=
  match Lib.atoiAll w with
  | .ok n => if 0 ≤ n ∧ n ≤ most ∧ Lib.itoa n = w then some n else none
  | _ => none
def pSign (s : St) : Int × St := if s.1 = [45] then (-1, lexW s.2) else (1, s)
def pNum (most : Int) (s : St) : Option (Int × St) := match numV most s.1 with | some n => some (n, lexW s.2) | none => none
def pName (s : St) : Option (Src × St) := if plainB s.1 = true then some (s.1, lexW s.2) else none
def pWant (w : Src) (s : St) : Option St := if s.1 = w then some (lexW s.2) else none
/-- Whether a term begins with a number, as the parser tells it. -/
def numB (w : Src) : Bool := match w with | [] => false | c :: _ => decide (c.toNat ≤ 57)
def pTerm (sign : Int) (s : St) : Option (Tm × St) :=
  if numB s.1 = true then
    match pNum 1000 s with
    | none => none
    | some (n, s2) => match pName s2 with | none => none | some (nm, s3) => some ((sign * n, nm), s3)
  else match pName s with | none => none | some (nm, s3) => some ((sign, nm), s3)
/-- More terms; k bounds their number. -/
def pTerms : Nat → List Tm → St → Option (List Tm × St)
  | 0, _, _ => none
  | k + 1, l, s =>
    if s.1 = [43] ∨ s.1 = [45] then
      match pTerm (if s.1 = [45] then -1 else 1) (lexW s.2) with
      | none => none
      | some (t, s2) => pTerms k (l ++ [t]) s2
    else some (l, s)
def opV (w : Src) : Int := if w = [60] then 0 else if w = [60, 61] then 1 else if w = [61] then 2 else if w = [33, 61] then 3 else if w = [62, 61] then 4 else if w = [62] then 5 else -1
def pCompare (s : St) : Option (Cd × St) :=
  match pTerm (pSign s).1 (pSign s).2 with
  | none => none
  | some (t, s2) => match pTerms (s2.1.length + s2.2.length + 1) [t] s2 with
    | none => none
    | some (l, s3) => if opV s3.1 < 0 then none else
      match pNum 2147483648 (pSign (lexW s3.2)).2 with
      | none => none
      | some (n, s5) => some (.mk 0 l (opV s3.1) ((pSign (lexW s3.2)).1 * n) [], s5)
/-- Operands of one kind behind the first one; k bounds their number. -/
def pMore (g : St → Option (Cd × St)) (kind : Int) (kw : Src) : Nat → Cd → St → Option (Cd × St)
  | 0, _, _ => none
  | k + 1, c, s =>
    if s.1 = kw then match g (lexW s.2) with
      | none => none
      | some (d, s2) => pMore g kind kw k (.mk kind [] 0 0 [c, d]) s2
    else some (c, s)
def stLen (s : St) : Nat := s.1.length + s.2.length
/-- A condition of a level; f bounds the work. -/
def pCond : Nat → Nat → St → Option (Cd × St)
  | 0, _, _ => none
  | f + 1, least, s =>
    if 3 ≤ least then
      if s.1 = wNot then match pCond f 3 (lexW s.2) with | none => none | some (c, s2) => some (.mk 1 [] 0 0 [c], s2)
      else if s.1 = [40] then match pCond f 1 (lexW s.2) with
        | none => none
        | some (c, s2) => match pWant [41] s2 with | none => none | some s3 => some (c, s3)
      else pCompare s
    else match pCond f (least + 1) s with
      | none => none
      | some (c, s2) => pMore (pCond f (least + 1)) (if least = 2 then 2 else 3) (if least = 2 then wAnd else wOr) (stLen s2 + 1) c s2
/-- Work enough for what a state holds. -/
def workN (s : St) : Nat := 3 * stLen s + 4
def pRule (s : St) : Option (Rl × St) :=
  match pWant wRule s with
  | none => none
  | some s1 => match pName s1 with
    | none => none
    | some (nm, s2) => match pWant [58] s2 with
      | none => none
      | some s3 => match pCond (workN s3) 1 s3 with
        | none => none
        | some (c, s4) => if s4.1 = [59] then some ((nm, c), lexW s4.2) else none
/-- Rules; k bounds their number. -/
def pRules : Nat → List Rl → St → Option (List Rl)
  | 0, _, _ => none
  | k + 1, l, s => if s.1 = [] then some l else match pRule s with
    | none => none
    | some (r, s2) => pRules k (l ++ [r]) s2
/-- What Parse answers: rules, or an error (of syntax, none). -/
def parseS (s : Src) : Option (List Rl) := pRules (s.length + 1) [] (lexW s)
/-! Truth. -/
abbrev Ft := Src × Int
/-- A fact's value. -/
def factV (l : List Ft) (nm : Src) : Option Int := (l.find? fun x => x.1 == nm).map (·.2)
def sumV (l : List Ft) : List Tm → Int → Option Int
  | [], a => some a
  | t :: r, a => match factV l t.2 with | none => none | some v => sumV l r (a + t.1 * v)
def cmpB (op x y : Int) : Bool := if op = 0 then decide (x < y) else if op = 1 then decide (x ≤ y) else if op = 2 then decide (x = y) else if op = 3 then decide (x ≠ y) else if op = 4 then decide (x ≥ y) else decide (x > y)
/-- What facts tell of a condition: 0 false, 1 true, 2 open; f bounds the depth. -/
def truthF : Nat → List Ft → Cd → Int
  | 0, _, _ => 0
  | f + 1, l, c =>
    if c.kind = 1 then (if truthF f l (kid c 0) = 0 then 1 else if truthF f l (kid c 0) = 1 then 0 else 2)
    else if c.kind = 2 ∨ c.kind = 3 then
      let strong : Int := if c.kind = 3 then 1 else 0
      let a := truthF f l (kid c 0)
      let b := truthF f l (kid c 1)
      if a = strong ∨ b = strong then strong else if a = 2 ∨ b = 2 then 2 else a
    else match sumV l c.terms 0 with
      | none => 2
      | some x => if cmpB c.cmp x c.than = true then 1 else 0
/-- The order of strings. -/
def ltB : Src → Src → Bool
  | [], [] => false
  | [], _ :: _ => true
  | _ :: _, [] => false
  | a :: r, b :: s => if a < b then true else if b < a then false else ltB r s
def factE (pre : Option Ft) (x : Ft) : Int :=
  if plainB x.1 = false then 6 else if x.2 < -2147483648 ∨ 2147483648 < x.2 then 3 else match pre with
    | some y => if ltB y.1 x.1 = true then 0 else 18
    | none => 0
def factsF : Option Ft → List Ft → Int
  | _, [] => 0
  | pre, x :: r => if factE pre x ≠ 0 then factE pre x else factsF (some x) r
/-- The first error of facts. -/
def factsE (l : List Ft) : Int := if 64 < l.length then 2 else factsF none l
end Pr
end Go.Proofs.YtonmpealebggoaaDoor
