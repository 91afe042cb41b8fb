/- The plain law of breaking a paragraph: what the program computes, on lists of parts. No program is in sight here. -/
namespace Go.Proofs.Ytajmdgkchleipaa.Para

structure Part where
  width : Int
  join : Int
  first : Bool
  last : Bool
structure Shape where
  W : Int
  S : Int
  Lo : Int
  Mo : Int
  H : Int
  C : Int
def pt0 : Part := ⟨0, 0, false, false⟩
def pt (l : List Part) (i : Nat) : Part := l.getD i pt0
theorem pt_drop (l : List Part) (i k : Nat) : pt (l.drop i) k = pt l (i + k) := by simp [pt, List.getD_eq_getElem?_getD, List.getElem?_drop]

/-- The first m parts of u as a line: their width without spaces, and the spaces. -/
def fixTo (u : List Part) : Nat → Int × Int
  | 0 => (0, 0)
  | m + 1 => if 0 < m ∧ (pt u m).first = true then ((fixTo u m).1 + (pt u m).width, (fixTo u m).2 + 1)
      else if 0 < m then ((fixTo u m).1 + (pt u m).width + (pt u m).join, (fixTo u m).2) else ((fixTo u m).1 + (pt u m).width, (fixTo u m).2)
def fixW (s : Shape) (u : List Part) (m : Nat) : Int := if (pt u (m - 1)).last = true then (fixTo u m).1 else (fixTo u m).1 + s.H
def fixG (u : List Part) (m : Nat) : Int := (fixTo u m).2

structure PartOk (p : Part) : Prop where
  w0 : 0 ≤ p.width
  w1 : p.width ≤ 65535
  j0 : -2047 ≤ p.join
  j1 : p.join ≤ 2047
structure ShapeOk (s : Shape) : Prop where
  W0 : 1 ≤ s.W
  W1 : s.W ≤ 65535
  L0 : 0 ≤ s.Lo
  LS : s.Lo ≤ s.S
  SM : s.S ≤ s.Mo
  M1 : s.Mo ≤ 65535
  H0 : 0 ≤ s.H
  H1 : s.H ≤ 65535
  C0 : 0 ≤ s.C
  C1 : s.C ≤ 1048576
def AllOk (u : List Part) : Prop := ∀ i, PartOk (pt u i)
theorem AllOk.drop {u : List Part} (h : AllOk u) (i : Nat) : AllOk (u.drop i) := fun k => by rw [pt_drop]; exact h _
theorem allOk_of {u : List Part} (h : ∀ p ∈ u, PartOk p) : AllOk u := by
  intro i
  unfold pt
  rcases Nat.lt_or_ge i u.length with hi | hi
  · rw [List.getD_eq_getElem?_getD, List.getElem?_eq_getElem hi]; exact h _ (List.getElem_mem hi)
  · rw [List.getD_eq_getElem?_getD, List.getElem?_eq_none hi]; exact ⟨by decide, by decide, by decide, by decide⟩

theorem fixTo_bd {u : List Part} (h : AllOk u) (m : Nat) : -2047 * (m : Int) ≤ (fixTo u m).1 ∧ (fixTo u m).1 ≤ 67582 * (m : Int) ∧ 0 ≤ (fixTo u m).2 ∧ (fixTo u m).2 ≤ (m : Int) := by
  induction m with
  | zero => simp [fixTo]
  | succ m ih =>
    obtain ⟨a, b, c, d⟩ := ih
    obtain ⟨w0, w1, j0, j1⟩ := h m
    simp only [fixTo]
    split
    · refine ⟨?_, ?_, ?_, ?_⟩ <;> simp only <;> omega
    · split <;> refine ⟨?_, ?_, ?_, ?_⟩ <;> simp only <;> omega

/-- The cost of the first m parts of u as a line, if it is permitted. -/
def off (s : Shape) (u : List Part) (m : Nat) : Int := s.W - fixW s u m - fixG u m * s.S
def permitted (s : Shape) (u : List Part) (m : Nat) : Bool :=
  !(decide (s.W < fixW s u m + fixG u m * s.Lo)) && (decide (m = u.length) || !(decide (0 < fixG u m)) || !(decide (fixW s u m + fixG u m * s.Mo < s.W)))
def costOf (s : Shape) (u : List Part) (m : Nat) : Int :=
  (if m = u.length ∧ 0 < off s u m then 0 else off s u m * off s u m) + (if (pt u (m - 1)).last = true then 0 else s.C)

/-- One candidate for the first line: k parts, at cost c, before the best division of the rest. -/
def pick (acc : Option (Int × Nat)) (ok : Bool) (c : Int) (rest : Option (Int × Nat)) (k : Nat) : Option (Int × Nat) :=
  match ok, rest with
  | true, some b => match acc with
    | none => some (c + b.1, k)
    | some a => if c + b.1 ≤ a.1 then some (c + b.1, k) else some a
  | _, _ => acc
def scan (s : Shape) (u : List Part) (r : List (Option (Int × Nat))) : Nat → Option (Int × Nat)
  | 0 => none
  | k + 1 => pick (scan s u r k) (permitted s u (k + 1)) (costOf s u (k + 1)) (r.getD k none) (k + 1)
/-- The best division of each rest of the parts. -/
def rows (s : Shape) : List Part → List (Option (Int × Nat))
  | [] => [some (0, 0)]
  | p :: t => scan s (p :: t) (rows s t) (t.length + 1) :: rows s t
theorem rows_length (s : Shape) : ∀ l, (rows s l).length = l.length + 1
  | [] => rfl
  | p :: t => by simp [rows, rows_length s t]
theorem rows_drop (s : Shape) : ∀ (l : List Part) (i : Nat), i ≤ l.length → rows s (l.drop i) = (rows s l).drop i
  | l, 0, _ => rfl
  | p :: t, i + 1, h => by
    simp only [List.drop_succ_cons, rows]
    exact rows_drop s t i (by simpa using h)
def best (s : Shape) (l : List Part) : Option (Int × Nat) := (rows s l).getD 0 none
theorem best_at (s : Shape) (l : List Part) (i : Nat) (h : i ≤ l.length) : (rows s l).getD i none = best s (l.drop i) := by
  unfold best
  rw [rows_drop s l i h]; simp [List.getD_eq_getElem?_getD, List.getElem?_drop]
theorem best_cons (s : Shape) (l : List Part) (i : Nat) (h : i < l.length) : best s (l.drop i) = scan s (l.drop i) ((rows s l).drop (i + 1)) (l.length - i) := by
  have e : l.drop i = l[i] :: l.drop (i + 1) := by rw [List.drop_eq_getElem_cons h]
  rw [e]
  unfold best
  simp only [rows, List.getD_cons_zero]
  rw [rows_drop s l (i + 1) (by omega)]
  congr 1
  rw [List.length_drop]; omega
end Go.Proofs.Ytajmdgkchleipaa.Para
