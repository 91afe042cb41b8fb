/- The plain side of Break: the rows of the best division while they are filled. -/
import Derived.Test.YtajmdgkchleipaaCheck
import Derived.Test.YtajmdgkchleipaaPlain2
namespace Go.Proofs.Ytajmdgkchleipaa
open Go.RowKit Para
theorem flatW_pos (ws : List Wd) (h : 0 < ws.length) (hok : ∀ i, i < ws.length → WdOk (wdAt ws i)) : 0 < (flatW ws).length := by
  obtain ⟨x, t, rfl⟩ : ∃ x t, ws = x :: t := by cases ws with | nil => simp at h | cons x t => exact ⟨x, t, rfl⟩
  have := (hok 0 h).p0
  simp only [wdAt, List.getD_cons_zero] at this
  simp [flatW, wordParts, partsTo]; omega
theorem flatW_ok {ws : List Wd} (h : ∀ i, i < ws.length → WdGood (wdAt ws i)) : AllOk (flatW ws) := by
  apply allOk_of
  intro p hp
  simp only [flatW, List.mem_flatMap] at hp
  obtain ⟨x, hx, hp⟩ := hp
  obtain ⟨i, hi, rfl⟩ := List.getElem_of_mem hx
  have hg := h i hi
  simp only [wdAt, List.getD_eq_getElem?_getD, List.getElem?_eq_getElem hi, Option.getD_some] at hg
  simp only [wordParts, partsTo, List.mem_map, List.mem_range] at hp
  obtain ⟨q, hq, rfl⟩ := hp
  have h1 := hg.pr q hq
  have h2 : -2047 ≤ (partAt ws[i] q).join ∧ (partAt ws[i] q).join ≤ 2047 := by
    unfold partAt
    dsimp only
    split
    · exact hg.jr (q - 1) (by have := hg.ok.j0; omega)
    · omega
  exact ⟨h1.1, h1.2, h2.1, h2.2⟩
/-- One line as it lies in memory. -/
structure Ln where
  f : Nat
  t : Nat
  hy : Bool
  gs : List Int
def lnOf (s : Shape) (l : List Part) (c : Nat × Nat) : Ln := ⟨c.1, c.2, !(pt l (c.2 - 1)).last, gapsTo (roomOf s (l.drop c.1) (c.2 - c.1)) (fixG (l.drop c.1) (c.2 - c.1)).toNat (fixG (l.drop c.1) (c.2 - c.1)).toNat⟩
def linesOf (s : Shape) (l : List Part) : List Ln := (cuts s l l.length 0).map (lnOf s l)
def lcells (x : Ln) (gv : Value) : List Value := [.int .i64 (x.f : Int), .int .i64 (x.t : Int), .bool x.hy, gv]
/-- The best division so far: costs from i on, and the ends of the first lines. -/
structure DP (s : Shape) (l : List Part) (i : Nat) (B N : List Int) : Prop where
  lb : B.length = l.length + 1
  ln : N.length = l.length
  b : ∀ p, i ≤ p → p ≤ l.length → B.getD p 0 = enc (best s (l.drop p))
  n : ∀ p, i ≤ p → p < l.length → ∀ c k, best s (l.drop p) = some (c, k) → N.getD p 0 = ((p + k : Nat) : Int)
theorem dp_start (s : Shape) (l : List Part) : DP s l l.length (List.replicate (l.length + 1) 0) (List.replicate l.length 0) :=
  ⟨by simp, by simp, fun p h1 h2 => by
    have : p = l.length := by omega
    subst this
    rw [List.drop_length, best_nil]; simp [enc, List.getD_eq_getElem?_getD], fun p h1 h2 => by omega⟩
/-- Position i, its first m candidates tried. -/
structure DPin (s : Shape) (l : List Part) (i m : Nat) (B N : List Int) : Prop where
  lb : B.length = l.length + 1
  ln : N.length = l.length
  b : ∀ p, i < p → p ≤ l.length → B.getD p 0 = enc (best s (l.drop p))
  n : ∀ p, i < p → p < l.length → ∀ c k, best s (l.drop p) = some (c, k) → N.getD p 0 = ((p + k : Nat) : Int)
  bi : B.getD i 0 = enc (scan s (l.drop i) ((rows s l).drop (i + 1)) m)
  ni : ∀ c k, scan s (l.drop i) ((rows s l).drop (i + 1)) m = some (c, k) → N.getD i 0 = ((i + k : Nat) : Int)
theorem getD_set_eq (B : List Int) (i : Nat) (x : Int) (h : i < B.length) : (B.set i x).getD i 0 = x := by
  rw [List.getD_eq_getElem?_getD, List.getElem?_set, if_pos rfl, if_pos h]; rfl
theorem getD_set_ne (B : List Int) (i p : Nat) (x : Int) (h : i ≠ p) : (B.set i x).getD p 0 = B.getD p 0 := by
  rw [List.getD_eq_getElem?_getD, List.getElem?_set, if_neg h, ← List.getD_eq_getElem?_getD]
theorem dp_open {s : Shape} {l : List Part} {i : Nat} {B N : List Int} (h : DP s l (i + 1) B N) (hi : i < l.length) : DPin s l i 0 (B.set i (-1)) N :=
  ⟨by rw [List.length_set]; exact h.lb, h.ln, fun p h1 h2 => by rw [getD_set_ne _ _ _ _ (by omega)]; exact h.b p (by omega) h2, fun p h1 h2 => h.n p (by omega) h2,
    by rw [getD_set_eq _ _ _ (by rw [h.lb]; omega)]; rfl, fun c k e => by simp [scan] at e⟩
theorem dp_shut {s : Shape} {l : List Part} {i : Nat} {B N : List Int} (h : DPin s l i (l.length - i) B N) (hi : i < l.length) : DP s l i B N := by
  have e := best_cons s l i hi
  refine ⟨h.lb, h.ln, fun p h1 h2 => ?_, fun p h1 h2 c k hb => ?_⟩
  · rcases Nat.lt_or_ge i p with hp | hp
    · exact h.b p hp h2
    · have : p = i := by omega
      subst this; rw [e]; exact h.bi
  · rcases Nat.lt_or_ge i p with hp | hp
    · exact h.n p hp h2 c k hb
    · have : p = i := by omega
      subst this; rw [e] at hb; exact h.ni c k hb
theorem rows_get (s : Shape) (l : List Part) (i m : Nat) (h : i + (m + 1) ≤ l.length) : ((rows s l).drop (i + 1)).getD m none = best s (l.drop (i + (m + 1))) := by
  rw [← best_at s l (i + (m + 1)) h]
  simp only [List.getD_eq_getElem?_getD, List.getElem?_drop]
  congr 2; omega
/-- A candidate that is not taken. -/
theorem dp_skip {s : Shape} {l : List Part} {i m : Nat} {B N : List Int} (h : DPin s l i m B N) (hs : scan s (l.drop i) ((rows s l).drop (i + 1)) (m + 1) = scan s (l.drop i) ((rows s l).drop (i + 1)) m) : DPin s l i (m + 1) B N :=
  ⟨h.lb, h.ln, h.b, h.n, by rw [hs]; exact h.bi, fun c k e => h.ni c k (by rw [← hs]; exact e)⟩
/-- A candidate that is taken. -/
theorem dp_take {s : Shape} {l : List Part} {i m : Nat} {B N : List Int} {c : Int} (h : DPin s l i m B N) (hi : i < l.length) (hs : scan s (l.drop i) ((rows s l).drop (i + 1)) (m + 1) = some (c, m + 1)) : DPin s l i (m + 1) (B.set i c) (N.set i ((i + (m + 1) : Nat) : Int)) :=
  ⟨by rw [List.length_set]; exact h.lb, by rw [List.length_set]; exact h.ln, fun p h1 h2 => by rw [getD_set_ne _ _ _ _ (by omega)]; exact h.b p h1 h2, fun p h1 h2 => by rw [getD_set_ne _ _ _ _ (by omega)]; exact h.n p h1 h2,
    by rw [getD_set_eq _ _ _ (by rw [h.lb]; omega), hs]; rfl, fun c' k e => by
      rw [hs] at e; injection e with e; injection e with e1 e2; subst e2
      rw [getD_set_eq _ _ _ (by rw [h.ln]; exact hi)]⟩
end Go.Proofs.Ytajmdgkchleipaa
