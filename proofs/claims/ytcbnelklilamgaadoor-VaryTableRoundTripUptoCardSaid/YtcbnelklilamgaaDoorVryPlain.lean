/- Tables as texts, in plain words: what is written is read as the same table. No program is in sight here. -/
namespace Go.Proofs.YtcbnelklilamgaaDoor
namespace Vr
abbrev Src := List UInt8
def spec (c : UInt8) : Bool := c == 44 || c == 34 || c == 10
def dbl (c : UInt8) : Src := if c = 34 then [34, 34] else [c]
/-- A value as it is written. -/
def quo (s : Src) : Src := if (s != [] && !s.any spec) = true then s else 34 :: (s.flatMap dbl ++ [34])
def jn : List Src → Src
  | [] => []
  | [x] => x
  | x :: y :: r => x ++ 44 :: jn (y :: r)
def rowT (r : List Src) : Src := jn (r.map quo) ++ [10]
def headT (f : List Src) : Src := jn f ++ [10]
def bodyT (rows : List (List Src)) : Src := rows.flatMap rowT
/-- A quoted value behind its first quote. -/
def scanQ : Src → Src → Option (Src × UInt8 × Src)
  | acc, c :: d :: t => if c ≠ 34 then scanQ (acc ++ [c]) (d :: t) else if d = 34 then scanQ (acc ++ [34]) t else if d = 44 ∨ d = 10 then some (acc, d, t) else none
  | _, [_] => none
  | _, [] => none
termination_by _ s => s.length
def valueP (s : Src) : Option (Src × UInt8 × Src) :=
  if s.head? = some 34 then scanQ [] s.tail
  else if s.findIdx spec = 0 ∨ s.length ≤ s.findIdx spec then none
  else if s[s.findIdx spec]? = some 34 then none
  else some (s.take (s.findIdx spec), (s[s.findIdx spec]?).getD 0, s.drop (s.findIdx spec + 1))
/-- A line, of at most n values. -/
def lineP : Nat → Src → Option (List Src × Src)
  | 0, _ => none
  | n + 1, s => match valueP s with
    | none => none
    | some (v, e, r) => if e = 10 then some ([v], r) else (lineP n r).map fun x => (v :: x.1, x.2)
theorem scan_dbl (v : Src) (e : UInt8) (he : e = 44 ∨ e = 10) (r : Src) : ∀ acc, scanQ acc (v.flatMap dbl ++ 34 :: e :: r) = some (acc ++ v, e, r) := by
  have h34 : e ≠ 34 := by rcases he with rfl | rfl <;> decide
  induction v with
  | nil => intro acc; simp only [List.flatMap_nil, List.nil_append, List.append_nil]; rw [scanQ]; simp [h34, he]
  | cons c v ih =>
    intro acc
    have hne : ∃ x y, v.flatMap dbl ++ 34 :: e :: r = x :: y := by
      cases h : v.flatMap dbl with
      | nil => exact ⟨_, _, rfl⟩
      | cons x y => exact ⟨_, _, rfl⟩
    obtain ⟨x, y, hxy⟩ := hne
    rw [List.flatMap_cons, List.append_assoc]
    by_cases hc : c = 34
    · subst hc
      have e1 : dbl 34 = [34, 34] := rfl
      rw [e1]
      simp only [List.cons_append, List.nil_append]
      rw [scanQ]
      simp only [ne_eq, not_true, if_false, if_true]
      rw [ih]
      simp
    · have e1 : dbl c = [c] := by unfold dbl; rw [if_neg hc]
      rw [e1]
      simp only [List.cons_append, List.nil_append]
      rw [hxy, scanQ]
      simp only [ne_eq, hc, not_false_iff, if_true]
      rw [← hxy, ih]
      simp
theorem find_plain (v : Src) (e : UInt8) (r : Src) (hv : v.any spec = false) (he : spec e = true) : (v ++ e :: r).findIdx spec = v.length := by
  induction v with
  | nil => simp [List.findIdx_cons, he]
  | cons c v ih =>
    simp only [List.any_cons, Bool.or_eq_false_iff] at hv
    simp only [List.cons_append, List.findIdx_cons, hv.1, cond_false, List.length_cons, ih hv.2]
theorem value_plain (v : Src) (e : UInt8) (he : e = 44 ∨ e = 10) (r : Src) (hv : v.any spec = false) (hn : v ≠ []) : valueP (v ++ e :: r) = some (v, e, r) := by
  have hs : spec e = true := by rcases he with rfl | rfl <;> decide
  have h34 : e ≠ 34 := by rcases he with rfl | rfl <;> decide
  have hi := find_plain v e r hv hs
  have hl : v.length ≠ 0 := fun h => hn (List.length_eq_zero_iff.1 h)
  unfold valueP
  rw [hi]
  have hh : (v ++ e :: r).head? ≠ some 34 := by
    cases v with
    | nil => exact absurd rfl hn
    | cons c v =>
      simp only [List.any_cons, Bool.or_eq_false_iff] at hv
      intro h
      have : c = 34 := by simpa using h
      subst this
      have := hv.1
      simp [spec] at this
  rw [if_neg hh, if_neg (by simp; omega)]
  have hg : (v ++ e :: r)[v.length]? = some e := by simp
  rw [hg, if_neg (by simp [h34])]
  simp
theorem value_quo (v : Src) (e : UInt8) (he : e = 44 ∨ e = 10) (r : Src) : valueP (quo v ++ e :: r) = some (v, e, r) := by
  unfold quo
  split
  · next h =>
    simp only [Bool.and_eq_true, bne_iff_ne, ne_eq, Bool.not_eq_true'] at h
    exact value_plain v e he r h.2 h.1
  · unfold valueP
    rw [if_pos (by simp)]
    have : (34 :: (List.flatMap dbl v ++ [34]) ++ e :: r).tail = v.flatMap dbl ++ 34 :: e :: r := by simp
    rw [this, scan_dbl v e he r []]
    rfl
/-- A line that is written is read. -/
theorem line_row (f : Src → Src) (l : List Src) (rest : Src) (hl : l ≠ []) (hv : ∀ v ∈ l, ∀ (e : UInt8) (r : Src), e = 44 ∨ e = 10 → valueP (f v ++ e :: r) = some (v, e, r)) :
    ∀ n, l.length ≤ n → lineP n (jn (l.map f) ++ 10 :: rest) = some (l, rest) := by
  induction l with
  | nil => exact absurd rfl hl
  | cons v l ih =>
    intro n hn
    cases n with
    | zero => simp at hn
    | succ n =>
      cases l with
      | nil =>
        simp only [List.map_cons, List.map_nil, jn]
        rw [lineP, hv v (by simp) 10 rest (.inr rfl)]
        simp
      | cons u l =>
        have e1 : jn ((v :: u :: l).map f) ++ 10 :: rest = f v ++ 44 :: (jn ((u :: l).map f) ++ 10 :: rest) := by simp [jn]
        rw [e1, lineP, hv v (by simp) 44 _ (.inl rfl)]
        have hq := ih (by simp) (fun x hx => hv x (by simp [hx])) n (by simpa using hn)
        simp only [hq]
        rfl
/-! Names. -/
def lower (c : UInt8) : Bool := decide (97 ≤ c.toNat) && decide (c.toNat ≤ 122)
def digit (c : UInt8) : Bool := decide (48 ≤ c.toNat) && decide (c.toNat ≤ 57)
def nameB : Src → Bool
  | [] => false
  | c :: r => lower c && r.all (fun c => lower c || digit c || c == 45) && decide (r.length < 16)
theorem name_spec {s : Src} (h : nameB s = true) : s.any spec = false ∧ s ≠ [] := by
  have hs : ∀ c, (lower c || digit c || c == 45) = true → spec c = false := by
    intro c h
    cases h2 : spec c with
    | false => rfl
    | true =>
      simp only [spec, Bool.or_eq_true, beq_iff_eq] at h2
      rcases h2 with (rfl | rfl) | rfl <;> revert h <;> decide
  cases s with
  | nil => cases h
  | cons c r =>
    simp only [nameB, Bool.and_eq_true] at h
    obtain ⟨⟨h1, h2⟩, _⟩ := h
    refine ⟨?_, by simp⟩
    simp only [List.any_cons, Bool.or_eq_false_iff]
    refine ⟨hs c (by simp [h1]), ?_⟩
    rw [List.any_eq_false]
    intro x hx
    have := List.all_eq_true.1 h2 x hx
    rw [hs x this]
    simp
/-! Tables. -/
/-- The first error of the names, as Print finds it: place by place. -/
def namesE : List Src → List Src → Int
  | _, [] => 0
  | pre, f :: r => if nameB f = true then (if pre.contains f = true then 7 else namesE (pre ++ [f]) r) else 6
/-- The rows behind what is written already. -/
def rowsE (n : Nat) : Src → List (List Src) → Int × Src
  | acc, [] => (0, acc)
  | acc, r :: rs => if r.length ≠ n then (4, []) else if 8192 < (acc ++ rowT r).length then (2, []) else rowsE n (acc ++ rowT r) rs
/-- What Print answers. -/
def printP (f : List Src) (rows : List (List Src)) : Int × Src :=
  if 16 < f.length ∨ 256 < rows.length then (2, [])
  else if f.length = 0 then (8, [])
  else if namesE [] f ≠ 0 then (namesE [] f, [])
  else rowsE f.length (headT f) rows
/-- What Parse reads: the lines of a text. -/
def linesP : Nat → Src → Option (List (List Src))
  | 0, _ => none
  | n + 1, s => if s = [] then some [] else match lineP (s.length + 1) s with
    | none => none
    | some (l, r) => (linesP n r).map fun x => l :: x
theorem jn_len (l : List Src) (h : ∀ v ∈ l, v ≠ [] ∨ True) : l.length ≤ (jn l).length + 1 := by
  induction l with
  | nil => simp
  | cons v l ih =>
    cases l with
    | nil => simp [jn]
    | cons u l =>
      have := ih (fun _ _ => .inr trivial)
      simp only [jn, List.length_append, List.length_cons] at *
      omega
theorem lines_rows (rows : List (List Src)) (h : ∀ r ∈ rows, r ≠ []) : ∀ n, rows.length < n → linesP n (bodyT rows) = some rows := by
  induction rows with
  | nil => intro n hn; cases n with
    | zero => simp at hn
    | succ n => simp [linesP, bodyT]
  | cons r rs ih =>
    intro n hn
    cases n with
    | zero => simp at hn
    | succ n =>
      have e1 : bodyT (r :: rs) = jn (r.map quo) ++ 10 :: bodyT rs := by simp [bodyT, rowT]
      have hne : bodyT (r :: rs) ≠ [] := by rw [e1]; simp
      have hlen : r.length ≤ (bodyT (r :: rs)).length + 1 := by
        have := jn_len (r.map quo) (fun _ _ => .inr trivial)
        rw [e1]
        simp only [List.length_map, List.length_append, List.length_cons] at *
        omega
      rw [linesP, if_neg hne]
      have h1 := line_row quo r (bodyT rs) (h r (by simp)) (fun v _ e t he => value_quo v e he t) _ hlen
      rw [← e1] at h1
      simp only [h1]
      rw [ih (fun x hx => h x (by simp [hx])) n (by simpa using hn)]
      rfl
theorem names_all : ∀ (f pre : List Src), namesE pre f = 0 → ∀ s ∈ f, nameB s = true
  | [], _, _, s, hs => by cases hs
  | x :: f, pre, h, s, hs => by
    unfold namesE at h
    split at h
    · next hx =>
      split at h
      · cases h
      · rcases List.mem_cons.1 hs with rfl | hs
        · exact hx
        · exact names_all f _ h s hs
    · cases h
theorem rows_ok (n : Nat) : ∀ (rows : List (List Src)) (acc : Src) (s : Src), rowsE n acc rows = (0, s) → s = acc ++ bodyT rows ∧ (∀ r ∈ rows, r.length = n) ∧ (s.length ≤ 8192 ∨ rows = [])
  | [], acc, s, h => by
    have : acc = s := congrArg Prod.snd h
    subst this
    exact ⟨by simp [bodyT], fun r hr => (by cases hr), .inr rfl⟩
  | r :: rs, acc, s, h => by
    unfold rowsE at h
    split at h
    · cases h
    next h1 =>
    split at h
    · cases h
    next h2 =>
    obtain ⟨e1, e2, e3⟩ := rows_ok n rs _ s h
    refine ⟨by rw [e1]; simp [bodyT], fun x hx => ?_, .inl ?_⟩
    · rcases List.mem_cons.1 hx with rfl | hx
      · exact Classical.not_not.1 h1
      · exact e2 x hx
    · rcases e3 with e3 | e3
      · exact e3
      · subst e3
        rw [e1]
        simp only [bodyT, List.flatMap_nil, List.append_nil]
        omega
theorem jn_max (f : List Src) (h : ∀ s ∈ f, nameB s = true) : (jn f).length ≤ 17 * f.length := by
  have hb : ∀ s, nameB s = true → s.length ≤ 16 := fun s hs => by
    cases s with
    | nil => simp
    | cons c r => simp only [nameB, Bool.and_eq_true, decide_eq_true_eq] at hs; simp; omega
  induction f with
  | nil => simp [jn]
  | cons v l ih =>
    cases l with
    | nil => have := hb v (h v (by simp)); simp [jn]; omega
    | cons u l =>
      have h1 := hb v (h v (by simp))
      have h2 := ih (fun x hx => h x (by simp [hx]))
      simp only [jn, List.length_append, List.length_cons] at *
      omega
/-- What Print writes is short, and is read as the same table. -/
theorem round_trip {f : List Src} {rows : List (List Src)} {s : Src} (h : printP f rows = (0, s)) :
    s.length ≤ 8192 ∧ s ≠ [] ∧ lineP (s.length + 1) s = some (f, bodyT rows) ∧ ∀ n, rows.length < n → linesP n (bodyT rows) = some rows := by
  unfold printP at h
  split at h
  · cases h
  next h1 =>
  split at h
  · cases h
  next h2 =>
  split at h
  · next h3 => exact absurd (congrArg Prod.fst h) h3
  next h3 =>
  have hn := names_all f [] (Classical.not_not.1 h3)
  obtain ⟨e1, e2, e3⟩ := rows_ok _ rows _ s h
  have hjm := jn_max f hn
  have hfl : f ≠ [] := fun e => h2 (by rw [e]; rfl)
  refine ⟨?_, ?_, ?_, lines_rows rows fun r hr e => ?_⟩
  · rcases e3 with e3 | e3
    · exact e3
    · rw [e1, e3]
      simp only [bodyT, headT, List.flatMap_nil, List.append_nil, List.length_append, List.length_cons, List.length_nil]
      omega
  · rw [e1]; simp [headT]
  · have e4 : s = jn (f.map id) ++ 10 :: bodyT rows := by rw [e1]; simp [headT]
    have hl : f.length ≤ s.length + 1 := by
      have := jn_len f (fun _ _ => .inr trivial)
      rw [e4]
      simp only [List.map_id, List.length_append, List.length_cons]
      omega
    have h5 := line_row id f (bodyT rows) hfl (fun v hv e r he => value_plain v e he r (name_spec (hn v hv)).1 (name_spec (hn v hv)).2) (s.length + 1) hl
    rw [← e4] at h5
    exact h5
  · have := e2 r hr
    rw [e] at this
    exact h2 this.symm
end Vr
end Go.Proofs.YtcbnelklilamgaaDoor
