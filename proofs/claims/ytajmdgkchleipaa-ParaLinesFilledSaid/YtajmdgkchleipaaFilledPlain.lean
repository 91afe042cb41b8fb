/- The plain law of filled lines: the spaces of a line, their sum and their bounds. No program is in sight here. -/
import Derived.Test.YtajmdgkchleipaaLines
namespace Go.Proofs.Ytajmdgkchleipaa
open Go.RowKit Para
theorem div_add_bd (a b G : Int) (hG : 0 < G) : a / G + b / G ≤ (a + b) / G ∧ (a + b) / G ≤ a / G + b / G + 1 := by
  have ha := Int.mul_ediv_add_emod a G
  have hb := Int.mul_ediv_add_emod b G
  have ha0 := Int.emod_nonneg a (by omega : G ≠ 0)
  have hb0 := Int.emod_nonneg b (by omega : G ≠ 0)
  have ha1 := Int.emod_lt_of_pos a hG
  have hb1 := Int.emod_lt_of_pos b hG
  have e : a + b = (a % G + b % G) + G * (a / G + b / G) := by rw [Int.mul_add]; omega
  rw [e, Int.add_mul_ediv_left _ _ (by omega : G ≠ 0)]
  have h0 : 0 ≤ (a % G + b % G) / G := Int.ediv_nonneg (by omega) (by omega)
  have h1 : (a % G + b % G) / G < 2 := Int.ediv_lt_of_lt_mul hG (by omega)
  omega
theorem gap_bd (room : Int) (G i : Nat) (hG : 0 < G) : room / (G : Int) ≤ gapAt room G i ∧ gapAt room G i ≤ room / (G : Int) + 1 := by
  have := div_add_bd ((i : Int) * room) room G (by omega)
  unfold gapAt
  rw [show ((i : Int) + 1) * room = (i : Int) * room + room by rw [Int.add_mul, Int.one_mul]]
  omega
theorem gap_le (room M : Int) (G i : Nat) (hG : 0 < G) (h : room ≤ (G : Int) * M) : gapAt room G i ≤ M := by
  have h1 := (gap_bd room G i hG).2
  rcases Int.lt_or_eq_of_le h with hlt | heq
  · have : room / (G : Int) < M := Int.ediv_lt_of_lt_mul (by omega) (by rw [Int.mul_comm]; exact hlt)
    omega
  · unfold gapAt
    have e1 : ∀ x : Int, x * room / (G : Int) = x * M := fun x => by
      rw [heq, show x * ((G : Int) * M) = (G : Int) * (x * M) by rw [← Int.mul_assoc, Int.mul_comm x, Int.mul_assoc]]
      exact Int.mul_ediv_cancel_left _ (by omega)
    rw [e1, e1, Int.add_mul]; omega
theorem le_gap (room m : Int) (G i : Nat) (hG : 0 < G) (h : (G : Int) * m ≤ room) : m ≤ gapAt room G i := by
  have h1 := (gap_bd room G i hG).1
  have : m ≤ room / (G : Int) := Int.le_ediv_of_mul_le (by omega) (by rw [Int.mul_comm]; exact h)
  omega
theorem gaps_at (room : Int) (G k i : Nat) (h : i < k) : (gapsTo room G k).getD i 0 = gapAt room G i := by
  simp [gapsTo, List.getD_eq_getElem?_getD, h]
/-- The first j spaces together. -/
def gsum (gs : List Int) (j : Nat) : Int := (gs.take j).sum
theorem gsum_succ (gs : List Int) (j : Nat) (h : j < gs.length) : gsum gs (j + 1) = gsum gs j + gs.getD j 0 := by
  unfold gsum
  rw [List.take_succ_eq_append_getElem h, List.sum_append, List.getD_eq_getElem?_getD, List.getElem?_eq_getElem h]; simp
theorem gsum_gaps (room : Int) (G k j : Nat) (h : j ≤ k) : gsum (gapsTo room G k) j = (j : Int) * room / (G : Int) := by
  induction j with
  | zero => simp [gsum]
  | succ j ih => rw [gsum_succ _ _ (by simp [gapsTo]; omega), ih (by omega), gaps_at _ _ _ _ (by omega), gapAt]; push_cast; omega
theorem gsum_all (room : Int) (G : Nat) (hG : 0 < G) : gsum (gapsTo room G G) G = room := by
  rw [gsum_gaps _ _ _ _ (Nat.le_refl _), Int.mul_comm]
  exact Int.mul_ediv_cancel _ (by omega)
theorem gsum_le (gs : List Int) (h : ∀ i, i < gs.length → 0 ≤ gs.getD i 0) (j : Nat) : ∀ d, j + d ≤ gs.length → 0 ≤ gsum gs j ∧ gsum gs j ≤ gsum gs (j + d) := by
  have h0 : ∀ j, j ≤ gs.length → 0 ≤ gsum gs j := by
    intro j hj
    induction j with
    | zero => simp [gsum]
    | succ j ih => rw [gsum_succ _ _ (by omega)]; have := ih (by omega); have := h j (by omega); omega
  intro d hd
  refine ⟨h0 j (by omega), ?_⟩
  induction d with
  | zero => exact Int.le_refl _
  | succ d ih => rw [← Nat.add_assoc, gsum_succ _ _ (by omega)]; have := ih (by omega); have := h (j + d) (by omega); omega
/-- What the statement asks of one line: its spaces gs, its width without them z; m: the most that a space may have, full: the line is filled exactly. -/
structure LineOk (s : Shape) (gs : List Int) (z : Int) (last : Bool) : Prop where
  lo : ∀ i, i < gs.length → s.Lo ≤ gs.getD i 0
  hi : ∀ i, i < gs.length → gs.getD i 0 ≤ (if last = true then s.S else s.Mo)
  near : ∀ i, i < gs.length → gs.getD i 0 - gs.getD 0 0 ≤ 1 ∧ gs.getD 0 0 - gs.getD i 0 ≤ 1
  fit : z + gsum gs gs.length ≤ s.W
  full : last = false → 0 < gs.length → z + gsum gs gs.length = s.W
theorem line_ok {s : Shape} {l : List Part} {f t : Nat} (hs : ShapeOk s) (hl : AllOk l) (hft : f < t) (ht : t ≤ l.length) (hp : permitted s (l.drop f) (t - f) = true) : LineOk s (lnOf s l (f, t)).gs (fixW s (l.drop f) (t - f)) (decide (t = l.length)) := by
  have hfit := permitted_fit hs (hl.drop f) hp
  have hG0 : 0 ≤ fixG (l.drop f) (t - f) := (fixTo_bd (hl.drop f) (t - f)).2.2.1
  obtain ⟨W0, W1, L0, LS, SM, M1, H0, H1, C0, C1⟩ := hs
  have hgs : (lnOf s l (f, t)).gs = gapsTo (roomOf s (l.drop f) (t - f)) (fixG (l.drop f) (t - f)).toNat (fixG (l.drop f) (t - f)).toNat := rfl
  rw [hgs]
  have hend : t - f = (l.drop f).length ↔ t = l.length := by rw [List.length_drop]; omega
  have hroom : roomOf s (l.drop f) (t - f) = if t = l.length then min (s.W - fixW s (l.drop f) (t - f)) (fixG (l.drop f) (t - f) * s.S) else s.W - fixW s (l.drop f) (t - f) := by
    unfold roomOf; simp only [hend]
  simp only [permitted, Bool.and_eq_true, Bool.not_eq_true', decide_eq_false_iff_not, Bool.or_eq_true, decide_eq_true_eq, hend] at hp
  obtain ⟨hp1, hp2⟩ := hp
  obtain ⟨G, hG⟩ := Int.eq_ofNat_of_zero_le hG0
  rw [hG] at hroom hp1 hp2 ⊢
  rw [Int.toNat_natCast]
  have hlen : (gapsTo (roomOf s (l.drop f) (t - f)) G G).length = G := by simp [gapsTo]
  have hr0 : (G : Int) * s.Lo ≤ roomOf s (l.drop f) (t - f) := by
    rw [hroom]
    have h1 : (G : Int) * s.Lo ≤ (G : Int) * s.S := Int.mul_le_mul_of_nonneg_left LS (by omega)
    split <;> omega
  have hr1 : roomOf s (l.drop f) (t - f) ≤ s.W - fixW s (l.drop f) (t - f) := by rw [hroom]; split <;> omega
  refine ⟨fun i hi => ?_, fun i hi => ?_, fun i hi => ?_, ?_, fun hlast hg => ?_⟩
  · rw [hlen] at hi
    rw [gaps_at _ _ _ _ hi]
    exact le_gap _ _ _ _ (by omega) hr0
  · rw [hlen] at hi
    rw [gaps_at _ _ _ _ hi]
    refine gap_le _ _ _ _ (by omega) ?_
    by_cases ht' : t = l.length
    · rw [if_pos (by simpa using ht'), hroom, if_pos ht']; omega
    · rw [if_neg (by simpa using ht'), hroom, if_neg ht']
      rcases hp2 with (h | h) | h
      · exact absurd h ht'
      · omega
      · omega
  · rw [hlen] at hi
    rw [gaps_at _ _ _ _ hi, gaps_at _ _ _ _ (by omega : 0 < G)]
    have h1 := gap_bd (roomOf s (l.drop f) (t - f)) G i (by omega)
    have h2 := gap_bd (roomOf s (l.drop f) (t - f)) G 0 (by omega)
    omega
  · rw [hlen]
    rcases Nat.eq_zero_or_pos G with rfl | hg
    · simpa [gsum] using hfit
    · rw [gsum_all _ _ hg]; omega
  · rw [hlen] at hg ⊢
    have ht' : ¬ t = l.length := by simpa using hlast
    rw [gsum_all _ _ hg, hroom, if_neg ht']; omega
/-- A first part of a word has nothing before it. -/
def wj (p : Part) : Int := p.width + p.join
def NoJoin (l : List Part) : Prop := ∀ i, (pt l i).first = true → (pt l i).join = 0
theorem fixTo_wj {l : List Part} (h : NoJoin l) (f m : Nat) (hm : 0 < m) : (fixTo (l.drop f) (m + 1)).1 = (fixTo (l.drop f) m).1 + wj (pt l (f + m)) := by
  have hj := h (f + m)
  rw [fixTo, pt_drop]
  unfold wj
  split
  · rename_i h1; rw [hj h1.2]; simp
  · simp only; omega
theorem fixTo_one (l : List Part) (f : Nat) : (fixTo (l.drop f) 1).1 = (pt l f).width := by simp [fixTo, pt_drop]
theorem noJoin_flat (ws : List Wd) : NoJoin (flatW ws) := by
  induction ws with
  | nil => intro i h; simp [flatW, pt, pt0] at h
  | cons x ws ih =>
    intro i h
    have e : flatW (x :: ws) = wordParts x ++ flatW ws := by simp [flatW]
    rw [e] at h ⊢
    have hl := wordParts_length x
    rcases Nat.lt_or_ge i (wordParts x).length with c | c
    · rw [pt_append_left _ _ _ c, pt_word x _ (by omega)] at h ⊢
      simp only [partAt, decide_eq_true_eq] at h ⊢
      rw [if_neg (by omega)]
    · rw [pt_append_right _ _ _ c] at h ⊢
      exact ih _ h
theorem pt_flat_at {ws : List Wd} {k i : Nat} (hk : k < ws.length) (h1 : (flatW (ws.take k)).length ≤ i) (h2 : i - (flatW (ws.take k)).length < (wdAt ws k).parts.length) : (pt (flatW ws) i).width = (wdAt ws k).parts.getD (i - (flatW (ws.take k)).length) 0 := by
  have hs := flatW_succ ws k hk
  have hl : (flatW (ws.take (k + 1))).length = (flatW (ws.take k)).length + (wdAt ws k).parts.length := by rw [hs, List.length_append, wordParts_length]
  have e : flatW ws = flatW (ws.take (k + 1)) ++ flatW (ws.drop (k + 1)) := by
    conv => lhs; rw [← List.take_append_drop (k + 1) ws]
    unfold flatW
    rw [List.flatMap_append]
  rw [e, pt_append_left _ _ _ (by omega), hs, pt_append_right _ _ _ h1, pt_word _ _ h2]; rfl
/-- One line of the division. -/
theorem lines_ok {s : Shape} {l : List Part} (hs : ShapeOk s) (hl : AllOk l) (hb : best s l ≠ none) (t : Nat) (ht : t < (linesOf s l).length) :
    LineOk s (lnAt (linesOf s l) t).gs (fixW s (l.drop (lnAt (linesOf s l) t).f) ((lnAt (linesOf s l) t).t - (lnAt (linesOf s l) t).f)) (decide (t + 1 = (linesOf s l).length)) := by
  obtain ⟨h1, h2⟩ := lines_fact hb
  obtain ⟨a1, a2, a3, a4, a5⟩ := h1 t ht
  have hlast : ((lnAt (linesOf s l) t).t = l.length) = (t + 1 = (linesOf s l).length) := by
    apply propext
    constructor
    · intro e
      rcases Nat.lt_or_ge (t + 1) (linesOf s l).length with c | c
      · obtain ⟨b1, b2, b3, _⟩ := h1 (t + 1) c
        simp only [startAt] at b1
        omega
      · omega
    · intro e
      have h3 := h2
      rw [← e] at h3
      exact h3
  have key := line_ok hs hl a2 a3 a5
  rw [← a4] at key
  simp only [hlast] at key
  exact key
end Go.Proofs.Ytajmdgkchleipaa
