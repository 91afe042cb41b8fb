/- Coding by runs: the shortest code, from the end; what is coded is decoded. No program is in sight here. -/
namespace Go.Proofs.Ytdibgloaknnfgaa
/-- How many bytes from the beginning are equal to the first one, below the bound m. -/
def repTo (x : UInt8) : List UInt8 → Nat → Nat
  | _, 0 => 0
  | [], _ => 0
  | y :: r, m + 1 => if y = x then repTo x r m + 1 else 0
/-- repeated: 128 at most. -/
def repN : List UInt8 → Nat
  | [] => 1
  | x :: r => repTo x r 127 + 1
theorem repTo_le (x : UInt8) : ∀ (l : List UInt8) (m : Nat), repTo x l m ≤ m ∧ repTo x l m ≤ l.length
  | _, 0 => by simp [repTo]
  | [], m + 1 => by simp [repTo]
  | y :: r, m + 1 => by
    have := repTo_le x r m
    simp only [repTo]
    split
    · simp only [List.length_cons]; omega
    · simp
theorem repTo_take (x : UInt8) : ∀ (l : List UInt8) (m : Nat), l.take (repTo x l m) = List.replicate (repTo x l m) x
  | _, 0 => by simp [repTo]
  | [], m + 1 => by simp [repTo]
  | y :: r, m + 1 => by
    have := repTo_take x r m
    simp only [repTo]
    split
    · rename_i h; rw [h, List.take_succ_cons, this, List.replicate_succ]
    · simp
theorem repN_le {l : List UInt8} (h : l ≠ []) : 1 ≤ repN l ∧ repN l ≤ 128 ∧ repN l ≤ l.length := by
  cases l with
  | nil => exact absurd rfl h
  | cons x r => have := repTo_le x r 127; simp only [repN, List.length_cons]; omega
theorem repN_take {x : UInt8} {r : List UInt8} : (x :: r).take (repN (x :: r)) = List.replicate (repN (x :: r)) x := by
  simp only [repN, List.take_succ_cons, repTo_take, List.replicate_succ]
/-- The cost and the next piece at a place: a literal of this length, or a repetition of minus this length. -/
abbrev Cell := Nat × Int
def bestAt (cs : List Cell) (k : Nat) : Nat := (cs.getD k (0, 0)).1
def pick0 (cs : List Cell) (n : Nat) : Cell := if n = 1 then (2 + bestAt cs 0, 1) else (2 + bestAt cs (n - 1), -(n : Int))
/-- Behind the literals of less than k bytes; cs are the cells of the places behind. -/
def pickTo (cs : List Cell) (n : Nat) : Nat → Cell
  | 0 => pick0 cs n
  | k + 1 => if 1 + (k + 1) + bestAt cs k < (pickTo cs n k).1 then (1 + (k + 1) + bestAt cs k, ((k + 1 : Nat) : Int)) else pickTo cs n k
/-- All cells, from the end: one more than there are bytes. -/
def cellsR : List UInt8 → List Cell
  | [] => [(0, 0)]
  | x :: r => pickTo (cellsR r) (repN (x :: r)) (min 128 (r.length + 1)) :: cellsR r
theorem cellsR_length : ∀ l : List UInt8, (cellsR l).length = l.length + 1
  | [] => rfl
  | x :: r => by simp [cellsR, cellsR_length r]
theorem cellsR_drop : ∀ (l : List UInt8) (k : Nat), k ≤ l.length → (cellsR l).drop k = cellsR (l.drop k)
  | l, 0, _ => rfl
  | [], k + 1, h => absurd h (by simp)
  | x :: r, k + 1, h => by simpa [cellsR] using cellsR_drop r k (by simpa using h)
def cellR (l : List UInt8) : Cell := (cellsR l).getD 0 (0, 0)
theorem bestAt_cells {l : List UInt8} {k : Nat} (h : k ≤ l.length) : bestAt (cellsR l) k = (cellR (l.drop k)).1 := by
  unfold bestAt cellR
  rw [← cellsR_drop l k h, List.getD_eq_getElem?_getD, List.getD_eq_getElem?_getD, List.getElem?_drop, Nat.add_zero]
/-- A piece that may stand before the bytes l. -/
def okTake (l : List UInt8) (t : Int) : Prop := (∃ k : Nat, t = k ∧ 1 ≤ k ∧ k ≤ 128 ∧ k ≤ l.length) ∨ (∃ k : Nat, t = -(k : Int) ∧ 2 ≤ k ∧ k ≤ 128 ∧ k ≤ l.length ∧ ∃ x, l.take k = List.replicate k x)
/-- What a piece takes and what it costs. -/
def lenOf (t : Int) : Nat := t.natAbs
def costOf (t : Int) : Nat := if t < 0 then 2 else 1 + t.toNat
theorem pick_ok (x : UInt8) (r : List UInt8) : ∀ k, k ≤ min 128 (r.length + 1) → okTake (x :: r) (pickTo (cellsR r) (repN (x :: r)) k).2 ∧
    (pickTo (cellsR r) (repN (x :: r)) k).1 = costOf (pickTo (cellsR r) (repN (x :: r)) k).2 + (cellR ((x :: r).drop (lenOf (pickTo (cellsR r) (repN (x :: r)) k).2))).1
  | 0, _ => by
    have hn := repN_le (l := x :: r) (by simp)
    simp only [List.length_cons] at hn
    simp only [pickTo, pick0]
    split
    · rename_i h1
      refine ⟨.inl ⟨1, rfl, by omega, by omega, by simp⟩, ?_⟩
      show 2 + bestAt (cellsR r) 0 = 2 + (cellR r).1
      rw [bestAt_cells (by omega), List.drop_zero]
    · rename_i h1
      refine ⟨.inr ⟨repN (x :: r), rfl, by omega, by omega, by simp; omega, x, repN_take⟩, ?_⟩
      have hd : (x :: r).drop (lenOf (-((repN (x :: r) : Nat) : Int))) = r.drop (repN (x :: r) - 1) := by
        unfold lenOf
        rw [show (-((repN (x :: r) : Nat) : Int)).natAbs = (repN (x :: r) - 1) + 1 by omega, List.drop_succ_cons]
      have hc : costOf (-((repN (x :: r) : Nat) : Int)) = 2 := by unfold costOf; rw [if_pos (by omega)]
      rw [hd, hc, bestAt_cells (by omega)]
  | k + 1, hk => by
    simp only [pickTo]
    split
    · refine ⟨.inl ⟨k + 1, rfl, by omega, by omega, by simp; omega⟩, ?_⟩
      have hd : (x :: r).drop (lenOf ((k + 1 : Nat) : Int)) = r.drop k := by
        unfold lenOf
        rw [show (((k + 1 : Nat) : Int)).natAbs = k + 1 by omega, List.drop_succ_cons]
      have hc : costOf ((k + 1 : Nat) : Int) = 1 + (k + 1) := by unfold costOf; rw [if_neg (by omega)]; omega
      rw [hd, hc, bestAt_cells (by omega)]
    · exact pick_ok x r k (by omega)
theorem pick_le (cs : List Cell) (n : Nat) : ∀ k j, j < k → (pickTo cs n k).1 ≤ 1 + (j + 1) + bestAt cs j
  | 0, j, h => absurd h (by omega)
  | k + 1, j, h => by
    simp only [pickTo]
    by_cases hj : j = k
    · subst hj; split <;> omega
    · have := pick_le cs n k j (by omega)
      split <;> omega
theorem cellR_cons (x : UInt8) (r : List UInt8) : cellR (x :: r) = pickTo (cellsR r) (repN (x :: r)) (min 128 (r.length + 1)) := rfl
/-- The shortest code is at most one byte in 128 longer. -/
theorem cellR_bound (l : List UInt8) : (cellR l).1 ≤ l.length + (l.length + 127) / 128 := by
  induction hn : l.length using Nat.strongRecOn generalizing l with
  | ind n ih =>
    cases l with
    | nil => simp [cellR, cellsR]
    | cons x r =>
      simp only [List.length_cons] at hn
      rw [cellR_cons]
      rcases Nat.le_total 128 (r.length + 1) with h | h
      · rw [Nat.min_eq_left h]
        have h1 := pick_le (cellsR r) (repN (x :: r)) 128 127 (by omega)
        rw [bestAt_cells (by omega)] at h1
        have h2 := ih (r.drop 127).length (by rw [List.length_drop]; omega) (r.drop 127) rfl
        rw [List.length_drop] at h2
        omega
      · rw [Nat.min_eq_right h]
        have h1 := pick_le (cellsR r) (repN (x :: r)) (r.length + 1) r.length (by omega)
        rw [bestAt_cells (by omega), List.drop_length] at h1
        have : (cellR []).1 = 0 := rfl
        omega
/-- The bytes of a piece. -/
def pieceR (t : Int) (l : List UInt8) : List UInt8 := if t < 0 then [UInt8.ofNat (257 - t.natAbs), l.headD 0] else UInt8.ofNat (t.toNat - 1) :: l.take t.toNat
/-- The code of bytes. -/
def encR (l : List UInt8) : List UInt8 := if _h : l.length = 0 then [] else if _h0 : (cellR l).2.natAbs = 0 then [] else pieceR (cellR l).2 l ++ encR (l.drop (cellR l).2.natAbs)
termination_by l.length
decreasing_by rw [List.length_drop]; omega
theorem encR_nil : encR [] = [] := by rw [encR]; simp
theorem cell_ok {l : List UInt8} (h : l ≠ []) : okTake l (cellR l).2 ∧ (cellR l).1 = costOf (cellR l).2 + (cellR (l.drop (lenOf (cellR l).2))).1 := by
  cases l with
  | nil => exact absurd rfl h
  | cons x r => rw [cellR_cons]; exact pick_ok x r _ (Nat.le_refl _)
theorem ok_len {l : List UInt8} {t : Int} (h : okTake l t) : 1 ≤ t.natAbs ∧ t.natAbs ≤ 128 ∧ t.natAbs ≤ l.length := by
  rcases h with ⟨k, rfl, h1, h2, h3⟩ | ⟨k, rfl, h1, h2, h3, _⟩ <;> omega
theorem encR_more {l : List UInt8} (h : l ≠ []) : encR l = pieceR (cellR l).2 l ++ encR (l.drop (cellR l).2.natAbs) := by
  have h1 := ok_len (cell_ok h).1
  conv => lhs; rw [encR, dif_neg (fun e => h (List.length_eq_zero_iff.1 e)), dif_neg (by omega)]
theorem piece_length {l : List UInt8} {t : Int} (h : okTake l t) : (pieceR t l).length = costOf t := by
  unfold pieceR costOf
  rcases h with ⟨k, rfl, h1, h2, h3⟩ | ⟨k, rfl, h1, h2, h3, _⟩
  · rw [if_neg (by omega), if_neg (by omega)]
    simp; omega
  · rw [if_pos (by omega), if_pos (by omega)]; rfl
theorem encR_length (l : List UInt8) : (encR l).length = (cellR l).1 := by
  induction hn : l.length using Nat.strongRecOn generalizing l with
  | ind n ih =>
    cases hl : l with
    | nil => rw [encR_nil]; rfl
    | cons x r =>
      have hne : l ≠ [] := by rw [hl]; simp
      rw [← hl]
      obtain ⟨h1, h2⟩ := cell_ok hne
      have h3 := ok_len h1
      have := ih (l.drop (cellR l).2.natAbs).length (by rw [List.length_drop]; omega) _ rfl
      rw [encR_more hne, List.length_append, piece_length h1, this, h2]
      rfl
theorem encR_bound (l : List UInt8) : (encR l).length ≤ l.length + (l.length + 127) / 128 := by rw [encR_length]; exact cellR_bound l
/-- What decoding runs answers behind the bytes acc; f bounds the rounds. -/
def decRF : Nat → List UInt8 → List UInt8 → List UInt8 × Int
  | _, [], acc => (acc, 0)
  | 0, _ :: _, _ => ([], 5)
  | f + 1, c :: r, acc =>
    if c = 128 then ([], 5)
    else if c.toNat < 128 then
      if r.length < c.toNat + 1 then ([], 12) else if 65536 < acc.length + (c.toNat + 1) then ([], 2) else decRF f (r.drop (c.toNat + 1)) (acc ++ r.take (c.toNat + 1))
    else match r with
      | [] => ([], 12)
      | x :: r => if 65536 < acc.length + (257 - c.toNat) then ([], 2) else decRF f r (acc ++ List.replicate (257 - c.toNat) x)
theorem decRF_cons (f : Nat) (c : UInt8) (r acc : List UInt8) : decRF (f + 1) (c :: r) acc =
    if c = 128 then ([], 5)
    else if c.toNat < 128 then
      if r.length < c.toNat + 1 then ([], 12) else if 65536 < acc.length + (c.toNat + 1) then ([], 2) else decRF f (r.drop (c.toNat + 1)) (acc ++ r.take (c.toNat + 1))
    else match r with
      | [] => ([], 12)
      | x :: r => if 65536 < acc.length + (257 - c.toNat) then ([], 2) else decRF f r (acc ++ List.replicate (257 - c.toNat) x) := rfl
theorem decRF_more : ∀ (f : Nat) (l acc : List UInt8), l.length ≤ f → decRF (f + 1) l acc = decRF f l acc
  | _, [], acc, _ => by simp [decRF]
  | 0, _ :: _, _, h => absurd h (by simp)
  | f + 1, c :: r, acc, h => by
    simp only [List.length_cons] at h
    rw [decRF_cons, decRF_cons]
    split
    · rfl
    split
    · split
      · rfl
      split
      · rfl
      · exact decRF_more f _ _ (by rw [List.length_drop]; omega)
    · cases r with
      | nil => rfl
      | cons x r =>
        dsimp only
        split
        · rfl
        · simp only [List.length_cons] at h
          exact decRF_more f _ _ (by omega)
theorem decRF_any (l acc : List UInt8) : ∀ f, l.length ≤ f → decRF f l acc = decRF l.length l acc := by
  intro f hf
  induction f with
  | zero => rw [show l.length = 0 by omega]
  | succ f ih =>
    rcases Nat.lt_or_ge f l.length with h | h
    · rw [show l.length = f + 1 by omega]
    · rw [decRF_more f l acc h, ih h]
def decR (l acc : List UInt8) : List UInt8 × Int := decRF l.length l acc
theorem decR_nil (acc : List UInt8) : decR [] acc = (acc, 0) := rfl
theorem decR_cons (c : UInt8) (r acc : List UInt8) : decR (c :: r) acc =
    if c = 128 then ([], 5)
    else if c.toNat < 128 then
      if r.length < c.toNat + 1 then ([], 12) else if 65536 < acc.length + (c.toNat + 1) then ([], 2) else decR (r.drop (c.toNat + 1)) (acc ++ r.take (c.toNat + 1))
    else match r with
      | [] => ([], 12)
      | x :: r => if 65536 < acc.length + (257 - c.toNat) then ([], 2) else decR r (acc ++ List.replicate (257 - c.toNat) x) := by
  unfold decR
  rw [List.length_cons, decRF_cons]
  split
  · rfl
  split
  · split
    · rfl
    split
    · rfl
    · exact decRF_any _ _ _ (by rw [List.length_drop]; omega)
  · cases r with
    | nil => rfl
    | cons x r =>
      dsimp only
      split
      · rfl
      · exact decRF_any _ _ _ (by rw [List.length_cons]; omega)
theorem decR_piece {l rest acc : List UInt8} {t : Int} (h : okTake l t) (hs : acc.length + t.natAbs ≤ 65536) : decR (pieceR t l ++ rest) acc = decR rest (acc ++ l.take t.natAbs) := by
  rcases h with ⟨k, rfl, h1, h2, h3⟩ | ⟨k, rfl, h1, h2, h3, x, hx⟩
  · simp only [Int.natAbs_natCast] at hs ⊢
    have e : pieceR (k : Int) l = UInt8.ofNat (k - 1) :: l.take k := by unfold pieceR; rw [if_neg (by omega)]; rfl
    have hb : (UInt8.ofNat (k - 1)).toNat = k - 1 := by rw [UInt8.toNat_ofNat']; omega
    have h128 : UInt8.ofNat (k - 1) ≠ 128 := fun e => by rw [e] at hb; simp at hb; omega
    have hl : (l.take k).length = k := by rw [List.length_take]; omega
    rw [e, List.cons_append, decR_cons, if_neg h128, if_pos (by omega), hb, show k - 1 + 1 = k by omega, if_neg (by rw [List.length_append]; omega), if_neg (by omega)]
    rw [List.drop_append_of_le_length (by omega), List.take_append_of_le_length (by omega), List.drop_of_length_le (by omega), List.nil_append, List.take_of_length_le (l := List.take k l) (by omega)]
  · have hk : (-(k : Int)).natAbs = k := by omega
    rw [hk] at hs ⊢
    have hd : l.headD 0 = x := by
      cases l with
      | nil => simp at h3; omega
      | cons y r =>
        obtain ⟨j, rfl⟩ : ∃ j, k = j + 1 := ⟨k - 1, by omega⟩
        rw [List.take_succ_cons, List.replicate_succ] at hx
        exact (List.cons.inj hx).1
    have e : pieceR (-(k : Int)) l = [UInt8.ofNat (257 - k), x] := by unfold pieceR; rw [if_pos (by omega), hk, hd]
    have hb : (UInt8.ofNat (257 - k)).toNat = 257 - k := by rw [UInt8.toNat_ofNat']; omega
    have h128 : UInt8.ofNat (257 - k) ≠ 128 := fun e => by rw [e] at hb; simp at hb; omega
    rw [e, List.cons_append, List.cons_append, List.nil_append, decR_cons, if_neg h128, if_neg (by omega), hb, show 257 - (257 - k) = k by omega]
    show (if 65536 < acc.length + k then ([], 2) else decR rest (acc ++ List.replicate k x)) = _
    rw [if_neg (by omega), hx]
theorem decR_encR (l : List UInt8) : ∀ acc : List UInt8, acc.length + l.length ≤ 65536 → decR (encR l) acc = (acc ++ l, 0) := by
  induction hn : l.length using Nat.strongRecOn generalizing l with
  | ind n ih =>
    intro acc hs
    cases hl : l with
    | nil => rw [encR_nil, decR_nil, List.append_nil]
    | cons x r =>
      have hne : l ≠ [] := by rw [hl]; simp
      rw [← hl]
      have h1 := (cell_ok hne).1
      have h3 := ok_len h1
      rw [encR_more hne, decR_piece h1 (by omega), ih (l.drop (cellR l).2.natAbs).length (by rw [List.length_drop]; omega) _ rfl _ (by rw [List.length_append, List.length_take, List.length_drop]; omega), List.append_assoc, List.take_append_drop]
end Go.Proofs.Ytdibgloaknnfgaa
