/- The tokens of the page language, in plain words. -/
namespace Go.Proofs.YtenhaohooknkfaaDoor
namespace Tk
abbrev Src := List UInt8
abbrev Res (α : Type) := Except Int (α × Nat)
def white (c : UInt8) : Bool := c == 32 || c == 9 || c == 10
def delim (c : UInt8) : Bool := [40, 41, 60, 62, 91, 93, 47, 64, 37].contains c
def regular (c : UInt8) : Bool := !white c && !delim c
def digit (c : UInt8) : Bool := decide (48 ≤ c) && decide (c ≤ 57)
def letter (c : UInt8) : Bool := (decide (97 ≤ c) && decide (c ≤ 122)) || (decide (65 ≤ c) && decide (c ≤ 90))
def hexV (c : UInt8) : Option UInt8 :=
  if digit c then some (c - 48) else if decide (97 ≤ c) && decide (c ≤ 102) then some (c - 97 + 10) else if decide (65 ≤ c) && decide (c ≤ 70) then some (c - 65 + 10) else none
/-- How many bytes are white space and comments. -/
def skipN : Bool → Src → Nat
  | _, [] => 0
  | true, x :: r => 1 + skipN (x != 10) r
  | false, x :: r => if x == 37 then 1 + skipN true r else if white x then 1 + skipN false r else 0
def run (l : Src) : Src := l.takeWhile regular
/-- Two hexadecimal digits. -/
def pairV : Src → Option UInt8
  | a :: b :: _ => match hexV a, hexV b with
    | some x, some y => some (x <<< 4 ||| y)
    | _, _ => none
  | _ => none
/-- What stands behind a backslash: the byte it means, if any, and how many bytes are read. -/
def esc : Src → Res Src
  | [] => .error 12
  | x :: r => if x == 10 then .ok ([], 1) else if x == 110 then .ok ([10], 1) else if x == 116 then .ok ([9], 1)
    else if x == 92 || x == 40 || x == 41 then .ok ([x], 1)
    else if x == 120 then (match pairV r with | some v => .ok ([v], 3) | none => .error 5) else .error 5
def limited (l : Src) (most n : Nat) : Res Src := if most < l.length then .error 2 else .ok (l, n)
/-- A string behind its opening parenthesis: fuel, depth, what is left, what was read, how many bytes. -/
def textF : Nat → Nat → Src → Src → Nat → Res Src
  | 0, _, _, _, _ => .error 12
  | _ + 1, _, [], _, _ => .error 12
  | f + 1, d, x :: r, acc, n =>
    if x == 92 then (match esc r with
      | .error e => .error e
      | .ok (b, k) => textF f d (r.drop k) (acc ++ b) (n + 1 + k))
    else if x == 40 then (if 16 < d + 1 then .error 15 else textF f (d + 1) r (acc ++ [x]) (n + 1))
    else if x == 41 then (if d = 1 then limited acc 1024 (n + 1) else textF f (d - 1) r (acc ++ [x]) (n + 1))
    else textF f d r (acc ++ [x]) (n + 1)
def text (l : Src) : Res Src := textF (l.length + 1) 1 l [] 0
/-- A hexadecimal string behind its opening bracket: half a byte, whether there is one, what is left, what was read, how many bytes. -/
def hexL : UInt8 → Bool → Src → Src → Nat → Res Src
  | _, _, [], _, _ => .error 12
  | h, odd, x :: r, acc, n =>
    if white x then hexL h odd r acc (n + 1)
    else if x == 62 && !odd then limited acc 1024 (n + 1)
    else match hexV x with
      | none => .error 5
      | some v => if odd then hexL v false r (acc ++ [h <<< 4 ||| v]) (n + 1) else hexL v true r acc (n + 1)
def hex (l : Src) : Res Src := hexL 0 false l [] 0
def nameF : Nat → Src → Src → Except Int Src
  | 0, _, _ => .error 5
  | _ + 1, [], acc => .ok acc
  | f + 1, x :: r, acc =>
    if x == 35 then (match pairV r with
      | none => .error 5
      | some v => if v == 0 then .error 5 else nameF f (r.drop 2) (acc ++ [v]))
    else if decide (x < 33) || decide (126 < x) then .error 5 else nameF f r (acc ++ [x])
def nameW (w : Src) : Except Int Src :=
  match nameF (w.length + 1) w [] with
  | .error e => .error e
  | .ok acc => if acc.length = 0 then .error 5 else if 31 < acc.length then .error 2 else .ok acc
def natV (d : Src) : Nat := d.foldl (fun n c => n * 10 + (c.toNat - 48)) 0
def signed (w : Src) : Bool := match w with | x :: _ => x == 43 || x == 45 | [] => false
def digs (w : Src) : Src := if signed w then w.drop 1 else w
def intV (w : Src) : Int := match w with | x :: r => if x == 45 then -(natV r : Int) else if x == 43 then (natV r : Int) else (natV w : Int) | [] => 0
def integer (w : Src) : Except Int Int :=
  if (digs w).length = 0 ∨ 10 < (digs w).length ∨ (digs w).all digit = false then .error 5
  else if intV w < -2147483647 ∨ 2147483647 < intV w then .error 3 else .ok (intV w)
def reference (w : Src) : Except Int Int :=
  if w.length = 0 ∨ 3 < w.length ∨ (w.head? = some 48 ∧ 1 < w.length) ∨ w.all digit = false then .error 5
  else if (natV w : Int) < 1 ∨ 255 < (natV w : Int) then .error 3 else .ok (natV w)
def wordC (first : Bool) (x : UInt8) : Bool := letter x || (!first && digit x) || x == 42 || x == 95 || x == 46
def word (w : Src) : Except Int Src :=
  match w with
  | [] => .error 5
  | x :: r => if wordC true x && r.all (wordC false) then (if 31 < w.length then .error 2 else .ok w) else .error 5
structure BTok where
  kind : Int
  int : Int
  text : Src
  deriving DecidableEq, Inhabited
def mapInt (k : Int) (n : Nat) : Except Int Int → Res BTok
  | .error e => .error e
  | .ok v => .ok (⟨k, v, []⟩, n)
def mapTxt (k : Int) (n : Nat) : Except Int Src → Res BTok
  | .error e => .error e
  | .ok v => .ok (⟨k, 0, v⟩, n)
def mapRes (k : Int) : Res Src → Res BTok
  | .error e => .error e
  | .ok (v, n) => .ok (⟨k, 0, v⟩, n + 1)
/-- The token at the head, and how many bytes it takes. -/
def one : Src → Res BTok
  | [] => .error 5
  | x :: r =>
    if x == 43 || x == 45 || digit x then mapInt 1 (run (x :: r)).length (integer (run (x :: r)))
    else if regular x then mapTxt 5 (run (x :: r)).length (word (run (x :: r)))
    else if x == 47 then mapTxt 2 (1 + (run r).length) (nameW (run r))
    else if x == 64 then mapInt 4 (1 + (run r).length) (reference (run r))
    else if x == 40 then mapRes 3 (text r)
    else if x == 91 then .ok (⟨6, 0, []⟩, 1)
    else if x == 93 then .ok (⟨7, 0, []⟩, 1)
    else if x == 60 then (if r.head? = some 60 then .ok (⟨8, 0, []⟩, 2) else mapRes 3 (hex r))
    else if x == 62 then (if r.head? = some 62 then .ok (⟨9, 0, []⟩, 2) else .error 5)
    else .error 5
structure Tok where
  b : BTok
  at_ : Nat
  en : Nat
  deriving DecidableEq, Inhabited
/-- The tokens of what is left, its first byte at p; or the place and the code of the first error. -/
def scanF : Nat → Nat → Src → Except (Nat × Int) (List Tok)
  | 0, p, _ => .error (p, 0)
  | f + 1, p, l =>
    match l.drop (skipN false l) with
    | [] => .ok []
    | x :: r => match one (x :: r) with
      | .error e => .error (p + skipN false l, e)
      | .ok (t, n) => match scanF f (p + skipN false l + n) ((x :: r).drop n) with
        | .error e => .error e
        | .ok ts => .ok (⟨t, p + skipN false l, p + skipN false l + n⟩ :: ts)
def scan (s : Src) : Except (Nat × Int) (List Tok) := if 8192 < s.length then .error (0, 2) else scanF (s.length + 1) 0 s
/-! Printed tokens. -/
def hexC (v : UInt8) : UInt8 := if v < 10 then v + 48 else v - 10 + 97
def plainName (x : UInt8) : Bool := letter x || digit x || x == 95 || x == 45 || x == 46
def prName (t : Src) : Src := t.flatMap fun x => if plainName x then [x] else [35, hexC (x >>> 4), hexC (x &&& 15)]
def prByte (x : UInt8) : Src :=
  if x == 10 then [92, 110] else if x == 9 then [92, 116] else if x == 40 || x == 41 || x == 92 then [92, x]
  else if decide (x < 32) || decide (125 < x) then [92, 120, hexC (x >>> 4), hexC (x &&& 15)] else [x]
def prText (t : Src) : Src := [40] ++ t.flatMap prByte ++ [41]
end Tk
end Go.Proofs.YtenhaohooknkfaaDoor
