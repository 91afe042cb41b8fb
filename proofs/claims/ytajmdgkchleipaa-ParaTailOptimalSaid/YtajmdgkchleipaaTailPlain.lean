/- The plain law of the tail: the lines behind the first one are those of the rest. No program is in sight here. -/
import Derived.Test.YtajmdgkchleipaaLines
namespace Go.Proofs.Ytajmdgkchleipaa
open Go.RowKit Para
theorem cuts_fuel (s : Shape) (l : List Part) : ∀ f f' i, l.length ≤ i + f → l.length ≤ i + f' → i ≤ l.length → best s (l.drop i) ≠ none → cuts s l f i = cuts s l f' i := by
  intro f
  induction f with
  | zero => intro f' i h1 h2 h3 h4; rw [cuts_end s l f' i (by omega)]; rfl
  | succ f ih =>
    intro f' i h1 h2 h3 h4
    rcases Nat.lt_or_ge i l.length with hlt | hge
    · obtain ⟨⟨c, k⟩, hb⟩ := Option.ne_none_iff_exists'.1 h4
      obtain ⟨k1, k2, k3, b, k4, k5⟩ := best_some hlt hb
      obtain ⟨f', rfl⟩ : ∃ g, f' = g + 1 := ⟨f' - 1, by omega⟩
      rw [cuts_step hlt hb, cuts_step hlt hb, ih f' (i + k) (by omega) (by omega) k2 (by rw [k4]; exact fun h => by cases h)]
    · rw [cuts_end s l _ i hge, cuts_end s l _ i hge]
theorem cuts_shift (s : Shape) (l : List Part) (T : Nat) : ∀ f i, cuts s l f (T + i) = (cuts s (l.drop T) f i).map fun c => (T + c.1, T + c.2) := by
  intro f
  induction f with
  | zero => intro i; rfl
  | succ f ih =>
    intro i
    have e : (l.drop T).drop i = l.drop (T + i) := by rw [List.drop_drop]
    have hl : (l.drop T).length = l.length - T := List.length_drop
    rw [cuts, cuts, e]
    by_cases h : T + i < l.length
    · rw [if_pos h, if_pos (by omega)]
      rcases hb : best s (l.drop (T + i)) with _ | b
      · rfl
      · simp only [List.map_cons]
        rw [Nat.add_assoc, ih (i + b.2)]
    · rw [if_neg h, if_neg (by omega)]; rfl
theorem lnOf_shift (s : Shape) (l : List Part) (T : Nat) (c : Nat × Nat) (h : c.1 < c.2) : lnOf s l (T + c.1, T + c.2) = ⟨T + c.1, T + c.2, (lnOf s (l.drop T) c).hy, (lnOf s (l.drop T) c).gs⟩ := by
  have e1 : T + c.2 - (T + c.1) = c.2 - c.1 := by omega
  have e2 : pt (l.drop T) (c.2 - 1) = pt l (T + c.2 - 1) := by rw [pt_drop]; congr 1; omega
  simp only [lnOf, e1, e2, List.drop_drop]
def shiftLn (T : Nat) (x : Ln) : Ln := ⟨T + x.f, T + x.t, x.hy, x.gs⟩
theorem lines_tail {s : Shape} {l : List Part} {c : Int} {k : Nat} (hn : 0 < l.length) (hb : best s l = some (c, k)) :
    linesOf s l = lnOf s l (0, k) :: (linesOf s (l.drop k)).map (shiftLn k) ∧ ∃ b, best s (l.drop k) = some b ∧ c = costOf s l k + b.1 := by
  have hb' : best s (l.drop 0) = some (c, k) := by rw [List.drop_zero]; exact hb
  obtain ⟨k1, k2, k3, b, k4, k5⟩ := best_some (i := 0) hn hb'
  rw [Nat.zero_add] at k2 k4
  rw [List.drop_zero] at k5
  refine ⟨?_, b, k4, k5⟩
  obtain ⟨n, hnn⟩ : ∃ n, l.length = n + 1 := ⟨l.length - 1, by omega⟩
  have hd : (l.drop k).length = l.length - k := List.length_drop
  have h0 : best s ((l.drop k).drop 0) ≠ none := by rw [List.drop_zero, k4]; exact fun h => by cases h
  have e1 : cuts s l l.length 0 = (0, k) :: cuts s l n k := by rw [hnn, cuts_step (by omega) hb', Nat.zero_add]
  have e2 : cuts s l n k = (cuts s (l.drop k) (l.drop k).length 0).map fun c => (k + c.1, k + c.2) := by
    rw [← cuts_fuel s (l.drop k) n (l.drop k).length 0 (by omega) (by omega) (by omega) h0]
    have := cuts_shift s l k n 0
    rwa [Nat.add_zero] at this
  unfold linesOf
  rw [e1, e2, List.map_cons, List.map_map, List.map_map]
  congr 1
  apply List.map_congr_left
  intro x hx
  obtain ⟨f1, _⟩ := cuts_fact s (l.drop k) (l.drop k).length 0 (by omega) (by omega) h0
  obtain ⟨t, ht, rfl⟩ := List.getElem_of_mem hx
  have := (f1 t ht).2.1
  rw [List.getD_eq_getElem?_getD, List.getElem?_eq_getElem ht, Option.getD_some] at this
  exact lnOf_shift s l k _ this
theorem flatW_split (ws : List Wd) (k : Nat) : flatW ws = flatW (ws.take k) ++ flatW (ws.drop k) := by
  conv => lhs; rw [← List.take_append_drop k ws]
  unfold flatW
  rw [List.flatMap_append]
theorem flatW_drop (ws : List Wd) (k : Nat) : flatW (ws.drop k) = (flatW ws).drop (flatW (ws.take k)).length := by
  conv => rhs; rw [flatW_split ws k]
  rw [List.drop_left]
theorem word_end {ws : List Wd} {k T : Nat} (hk : k < ws.length) (h1 : (flatW (ws.take k)).length < T) (h2 : T ≤ (flatW (ws.take (k + 1))).length) (hlast : (pt (flatW ws) (T - 1)).last = true) : (flatW (ws.take (k + 1))).length = T := by
  have hs := flatW_succ ws k hk
  have hl : (flatW (ws.take (k + 1))).length = (flatW (ws.take k)).length + (wdAt ws k).parts.length := by rw [hs, List.length_append, wordParts_length]
  rw [flatW_split ws (k + 1), pt_append_left _ _ _ (by omega), hs, pt_append_right _ _ _ (by omega), pt_word _ _ (by omega)] at hlast
  simp only [partAt, decide_eq_true_eq] at hlast
  omega
end Go.Proofs.Ytajmdgkchleipaa
