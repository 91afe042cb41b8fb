/- Laws of folded sheets in plain Lean: each leaf once, pages back to back, folds to the other side. No program is in sight here. -/
import Derived.Test.YtjmanooedgfbaaaDoorFoldPlain
namespace Go.Proofs.YtjmanooedgfbaaaDoor
/-! Each leaf once. -/
def idxL (C i : Nat) (x : Leaf) : Bool := x.r * C + x.c == i
theorem idx_iff {C c r i : Nat} (hc : c < C) : r * C + c = i ↔ c = i % C ∧ r = i / C := by
  constructor
  · rintro rfl
    rw [Nat.mul_comm r C, Nat.mul_add_mod, Nat.mod_eq_of_lt hc, Nat.mul_add_div (by omega), Nat.div_eq_of_lt hc]; exact ⟨rfl, rfl⟩
  · rintro ⟨rfl, rfl⟩; exact Nat.div_add_mod' i C
theorem count_place {C i j : Nat} {l : List Leaf} (h : ∀ x ∈ l, x.c < C) : l.countP (idxL C i) = l.countP (atPlace (i % C) (i / C)) := by
  have _ := j
  refine List.countP_congr fun x hx => ?_
  unfold idxL atPlace
  simp only [beq_iff_eq, Bool.and_eq_true]
  exact idx_iff (h x hx)
theorem mem_piles {S : Sheet} {x : Leaf} (h : x ∈ (pilesOf S).flatten) : ∃ c r, c < S.cols ∧ r < S.rows ∧ x ∈ S.P c r := by
  obtain ⟨p, hp, hx⟩ := List.mem_flatten.1 h
  unfold pilesOf at hp
  obtain ⟨r, hr, hp⟩ := List.mem_flatMap.1 hp
  obtain ⟨c, hc, rfl⟩ := List.mem_map.1 hp
  exact ⟨c, r, List.mem_range.1 hc, List.mem_range.1 hr, hx⟩
theorem leaves_in {C R : Nat} {l : List Step} {x : Leaf} (h : x ∈ (pilesOf (foldAll (flatS C R) l)).flatten) : x.c < C ∧ x.r < R := by
  obtain ⟨c, r, hc, hr, hx⟩ := mem_piles h
  exact every_in C R l c r hc hr x hx
theorem leaves_once {C R : Nat} {l : List Step} (h : okSteps (flatS C R) l) {i : Nat} (hi : i < C * R) : (pilesOf (foldAll (flatS C R) l)).flatten.countP (idxL C i) = 1 := by
  rw [count_place (j := 0) fun x hx => (leaves_in hx).1, countP_flatten]
  have hC : 0 < C := by rcases Nat.eq_zero_or_pos C with h0 | h0; (subst h0; simp at hi); exact h0
  exact tot_place_all (Nat.mod_lt _ hC) (Nat.div_lt_of_lt_mul hi) h
theorem leaves_length {C R : Nat} {l : List Step} (h : okSteps (flatS C R) l) : (pilesOf (foldAll (flatS C R) l)).flatten.length = R * C := by
  have := countP_flatten (fun _ => true) (foldAll (flatS C R) l)
  rw [tot_all _ (fun _ _ => rfl) h, tot_flat] at this
  simpa [List.countP_true] using this
/-! The pile of a sheet that is folded whole. -/
def endPile (C R : Nat) (l : List Step) : List Leaf := (foldAll (flatS C R) l).P 0 0
theorem piles_one {S : Sheet} (hc : S.cols = 1) (hr : S.rows = 1) : (pilesOf S).flatten = S.P 0 0 := by
  simp [pilesOf, hc, hr]
section
variable {C R : Nat} {l : List Step} (h : okSteps (flatS C R) l) (hc : (foldAll (flatS C R) l).cols = 1) (hr : (foldAll (flatS C R) l).rows = 1)
include h hc hr
theorem end_once {i : Nat} (hi : i < C * R) : (endPile C R l).countP (idxL C i) = 1 := by
  have := leaves_once h hi; rwa [piles_one hc hr] at this
theorem end_length : (endPile C R l).length = R * C := by
  have := leaves_length h; rwa [piles_one hc hr] at this
omit h in
theorem end_in {x : Leaf} (hx : x ∈ endPile C R l) : x.c < C ∧ x.r < R := every_in C R l 0 0 (by omega) (by omega) x hx
end
/-! Pages. -/
structure Pg where
  back : Bool
  col : Nat
  row : Nat
  turn : Nat
def pg (C t : Nat) (x : Leaf) (back half : Bool) : Pg := ⟨back, if back then C - 1 - x.c else x.c, x.r, if half then (t + 2) % 4 else t⟩
def pgUp (C t : Nat) (x : Leaf) : Pg := pg C t x (x.fx != x.fy) x.fy
def pgDown (C t : Nat) (x : Leaf) : Pg := pg C t x (!(x.fx != x.fy)) (x.fy != (t % 2 == 1))
def pagesOf (C t : Nat) (l : List Leaf) : List Pg := l.flatMap fun x => [pgUp C t x, pgDown C t x]
theorem pagesOf_length (C t : Nat) (l : List Leaf) : (pagesOf C t l).length = 2 * l.length := by
  induction l with
  | nil => rfl
  | cons x l ih => simp only [pagesOf, List.flatMap_cons, List.length_append, List.length_cons, List.length_nil] at ih ⊢; rw [ih]; omega
theorem pagesOf_snoc (C t : Nat) (l : List Leaf) (x : Leaf) : pagesOf C t (l ++ [x]) = pagesOf C t l ++ [pgUp C t x, pgDown C t x] := by simp [pagesOf]
theorem pagesOf_get (C t : Nat) (l : List Leaf) (i : Nat) (hi : i < l.length) : (pagesOf C t l)[2 * i]? = some (pgUp C t l[i]) ∧ (pagesOf C t l)[2 * i + 1]? = some (pgDown C t l[i]) := by
  induction l generalizing i with
  | nil => simp at hi
  | cons x l ih =>
    cases i with
    | zero => exact ⟨rfl, rfl⟩
    | succ i =>
      have := ih i (by simpa using hi)
      simp only [pagesOf, List.flatMap_cons] at this ⊢
      rw [List.getElem?_append_right (by simp; omega), List.getElem?_append_right (by simp; omega)]
      have e1 : 2 * (i + 1) - [pgUp C t x, pgDown C t x].length = 2 * i := by simp; omega
      have e2 : 2 * (i + 1) + 1 - [pgUp C t x, pgDown C t x].length = 2 * i + 1 := by simp; omega
      rw [e1, e2]; simpa using this
theorem mem_pages {C t : Nat} {l : List Leaf} {p : Pg} (h : p ∈ pagesOf C t l) : ∃ x ∈ l, p = pgUp C t x ∨ p = pgDown C t x := by
  obtain ⟨x, hx, hp⟩ := List.mem_flatMap.1 h
  exact ⟨x, hx, by simpa using hp⟩
theorem pg_turn (C t : Nat) (ht : t < 4) (x : Leaf) (b h : Bool) : (pg C t x b h).turn < 4 ∧ (pg C t x b h).turn % 2 = t % 2 := by
  unfold pg; cases h
  · exact ⟨ht, rfl⟩
  · simp only [if_true]; omega
theorem pages_turn {C t : Nat} (ht : t < 4) {l : List Leaf} {p : Pg} (h : p ∈ pagesOf C t l) : p.turn < 4 ∧ p.turn % 2 = t % 2 := by
  obtain ⟨x, _, rfl | rfl⟩ := mem_pages h
  · exact pg_turn C t ht x _ _
  · exact pg_turn C t ht x _ _
theorem pages_in {C R t : Nat} {l : List Leaf} (hl : ∀ x ∈ l, x.c < C ∧ x.r < R) {p : Pg} (h : p ∈ pagesOf C t l) : p.col < C ∧ p.row < R := by
  obtain ⟨x, hx, e⟩ := mem_pages h
  obtain ⟨h1, h2⟩ := hl x hx
  have key : ∀ b h, (pg C t x b h).col < C ∧ (pg C t x b h).row < R := fun b h => ⟨by unfold pg; cases b <;> simp <;> omega, h2⟩
  rcases e with rfl | rfl
  · exact key _ _
  · exact key _ _
/-- The two pages of a leaf. -/
theorem back_to_back (C t : Nat) (ht : t < 4) (x : Leaf) (hx : x.c < C) :
    (pgUp C t x).back ≠ (pgDown C t x).back ∧ (pgUp C t x).row = (pgDown C t x).row ∧ (pgUp C t x).col = C - 1 - (pgDown C t x).col ∧ ((pgUp C t x).turn + (pgDown C t x).turn) % 4 = 0 := by
  have h4 : t = 0 ∨ t = 1 ∨ t = 2 ∨ t = 3 := by omega
  unfold pgUp pgDown pg
  refine ⟨by cases x.fx <;> cases x.fy <;> simp, rfl, ?_, ?_⟩
  · cases x.fx <;> cases x.fy <;> simp <;> omega
  · rcases h4 with rfl | rfl | rfl | rfl <;> cases x.fy <;> simp
/-- The index of a page's place: the front's places first. -/
def pidx (C n : Nat) (p : Pg) : Nat := p.row * C + p.col + if p.back then n else 0
def pcount (C n i : Nat) (p : Pg) : Bool := pidx C n p == i
theorem pages_count {C R t i : Nat} {l : List Leaf} (hl : ∀ x ∈ l, x.c < C ∧ x.r < R) (_hi : i < 2 * (C * R)) :
    (pagesOf C t l).countP (pcount C (C * R) i) = if i < C * R then l.countP (idxL C i) else l.countP (idxL C ((i - C * R) / C * C + (C - 1 - (i - C * R) % C))) := by
  induction l with
  | nil => simp [pagesOf]
  | cons x l ih =>
    have ih := ih fun y hy => hl y (List.mem_cons_of_mem _ hy)
    obtain ⟨hx1, hx2⟩ := hl x List.mem_cons_self
    have hC : 0 < C := by omega
    have hle : x.r * C + x.c < C * R := by
      have h1 : (x.r + 1) * C ≤ R * C := Nat.mul_le_mul_right C hx2
      rw [Nat.succ_mul] at h1; rw [Nat.mul_comm C R]; omega
    have hle2 : x.r * C + (C - 1 - x.c) < C * R := by
      have h1 : (x.r + 1) * C ≤ R * C := Nat.mul_le_mul_right C hx2
      rw [Nat.succ_mul] at h1; rw [Nat.mul_comm C R]; omega
    have step : pagesOf C t (x :: l) = pgUp C t x :: pgDown C t x :: pagesOf C t l := rfl
    rw [step, List.countP_cons, List.countP_cons, ih]
    have hf : pcount C (C * R) i (pgUp C t x) = (if x.fx != x.fy then x.r * C + (C - 1 - x.c) + C * R == i else x.r * C + x.c == i) := by
      unfold pcount pidx pgUp pg; cases (x.fx != x.fy) <;> simp
    have hb : pcount C (C * R) i (pgDown C t x) = (if x.fx != x.fy then x.r * C + x.c == i else x.r * C + (C - 1 - x.c) + C * R == i) := by
      unfold pcount pidx pgDown pg; cases (x.fx != x.fy) <;> simp
    rw [hf, hb]
    by_cases h : i < C * R
    · simp only [if_pos h, List.countP_cons, idxL]
      have e0 : (x.r * C + (C - 1 - x.c) + C * R == i) = false := by rw [beq_eq_false_iff_ne]; omega
      rw [e0]
      cases (x.fx != x.fy) <;> simp
    · simp only [if_neg h, List.countP_cons, idxL]
      have e0 : (x.r * C + x.c == i) = false := by rw [beq_eq_false_iff_ne]; omega
      have e1 : (x.r * C + (C - 1 - x.c) + C * R == i) = (x.r * C + x.c == (i - C * R) / C * C + (C - 1 - (i - C * R) % C)) := by
        rw [Bool.eq_iff_iff, beq_iff_eq, beq_iff_eq]
        have hm : (i - C * R) % C < C := Nat.mod_lt _ hC
        have a1 : x.r * C + (C - 1 - x.c) + C * R = i ↔ x.r * C + (C - 1 - x.c) = i - C * R := by omega
        rw [a1, idx_iff (by omega), idx_iff hx1]
        generalize (i - C * R) % C = m at *
        generalize (i - C * R) / C = d at *
        have hlt : C - 1 - m < C := by omega
        have m1 : (d * C + (C - 1 - m)) % C = C - 1 - m := by
          rw [Nat.mul_comm, Nat.mul_add_mod, Nat.mod_eq_of_lt hlt]
        have m2 : (d * C + (C - 1 - m)) / C = d := by
          rw [Nat.mul_comm d C, Nat.mul_add_div hC, Nat.div_eq_of_lt hlt]; rfl
        rw [m1, m2]; omega
      rw [e0, e1]
      cases (x.fx != x.fy) <;> simp
theorem pages_once {C R t i : Nat} {l : List Leaf} (hl : ∀ x ∈ l, x.c < C ∧ x.r < R) (h1 : ∀ i, i < C * R → l.countP (idxL C i) = 1) (hi : i < 2 * (C * R)) : (pagesOf C t l).countP (pcount C (C * R) i) = 1 := by
  rw [pages_count hl hi]
  split
  · exact h1 _ ‹_›
  · refine h1 _ ?_
    have hC : 0 < C := by rcases Nat.eq_zero_or_pos C with h0 | h0; (subst h0; simp at hi); exact h0
    have h2 : (i - C * R) / C < R := Nat.div_lt_of_lt_mul (by omega)
    have h3 : ((i - C * R) / C + 1) * C ≤ R * C := Nat.mul_le_mul_right C h2
    rw [Nat.succ_mul] at h3; rw [Nat.mul_comm C R] at *; omega
/-! All folds to the other side. -/
def other (f : Step) : Step := { f with over := !f.over }
theorem flipL_reverse (sw : Bool) (l : List Leaf) : flipL sw l.reverse = (flipL sw l).reverse := by unfold flipL; simp [List.map_reverse]
theorem joinP_other (o : Bool) (a b : List Leaf) : joinP (!o) a.reverse b.reverse = (joinP o a b).reverse := by cases o <;> simp [joinP]
def Mirror (S T : Sheet) : Prop := T.cols = S.cols ∧ T.rows = S.rows ∧ ∀ c r, T.P c r = (S.P c r).reverse
theorem mirror_pile {S T : Sheet} (h : Mirror S T) (c r : Int) : pileAt T c r = (pileAt S c r).reverse := by
  unfold pileAt; rw [h.1, h.2.1]; split
  · exact h.2.2 _ _
  · rfl
theorem mirror_fold {S T : Sheet} (h : Mirror S T) (f : Step) : Mirror (foldS S f) (foldS T (other f)) := by
  have he : ext T (other f) = ext S f := by unfold ext; rw [h.1, h.2.1]; rfl
  refine ⟨?_, ?_, fun c r => ?_⟩
  · show (if acr f then sizeOf_ (ext T (other f)) f.line.toNat else T.cols) = _
    rw [he, h.1]; rfl
  · show (if acr f then T.rows else sizeOf_ (ext T (other f)) f.line.toNat) = _
    rw [he, h.2.1]; rfl
  · show (if acr f then joinP (!f.over) (flipL true (pileAt T (mvd (fst f) (sizeOf_ (ext T (other f)) f.line.toNat) f.line.toNat c) r)) (pileAt T (fxd (fst f) (sizeOf_ (ext T (other f)) f.line.toNat) f.line.toNat c) r)
      else joinP (!f.over) (flipL false (pileAt T c (mvd (fst f) (sizeOf_ (ext T (other f)) f.line.toNat) f.line.toNat r))) (pileAt T c (fxd (fst f) (sizeOf_ (ext T (other f)) f.line.toNat) f.line.toNat r))) = _
    rw [he]
    simp only [mirror_pile h, flipL_reverse, joinP_other]
    show _ = (if acr f then joinP f.over (flipL true (pileAt S (mvd (fst f) (sizeOf_ (ext S f) f.line.toNat) f.line.toNat c) r)) (pileAt S (fxd (fst f) (sizeOf_ (ext S f) f.line.toNat) f.line.toNat c) r)
      else joinP f.over (flipL false (pileAt S c (mvd (fst f) (sizeOf_ (ext S f) f.line.toNat) f.line.toNat r))) (pileAt S c (fxd (fst f) (sizeOf_ (ext S f) f.line.toNat) f.line.toNat r))).reverse
    split <;> rfl
theorem mirror_all {l : List Step} : ∀ {S T : Sheet}, Mirror S T → Mirror (foldAll S l) (foldAll T (l.map other)) := by
  induction l with
  | nil => intro S T h; exact h
  | cons f l ih => intro S T h; exact ih (mirror_fold h f)
theorem mirror_flat (C R : Nat) : Mirror (flatS C R) (flatS C R) := ⟨rfl, rfl, fun _ _ => rfl⟩
theorem okStep_other {S T : Sheet} (h : Mirror S T) (f : Step) : okStep T (other f) ↔ okStep S f := by
  unfold okStep ext; rw [h.1, h.2.1]; exact Iff.rfl
end Go.Proofs.YtjmanooedgfbaaaDoor
