/- Finding a page on the two plates; the two pages of a leaf. No program is in sight here. -/
import Derived.Test.YtjcijogdcafloaaImpPlain
namespace Go.Proofs.Ytjcijogdcafloaa
def findP (l : List Pla) (page : Int) : Option Pla := l.find? fun p => p.page == page
def pg0 : Pg := ⟨false, 0, 0, 0⟩
theorem plc_page (L : Lay) (i : Nat) (p : Pg) : (L.plc i p).page = (i : Int) + 1 := by unfold Lay.plc; split <;> (try split) <;> rfl
/-- Page i of the plates that g chooses. -/
theorem findP_range (L : Lay) (ps : List Pg) (g : Pg → Bool) (i k : Nat) :
    findP ((List.range k).flatMap fun i => if g (ps.getD i pg0) then [L.plc i (ps.getD i pg0)] else []) ((i : Int) + 1) = if i < k ∧ g (ps.getD i pg0) = true then some (L.plc i (ps.getD i pg0)) else none := by
  induction k with
  | zero => rw [if_neg (by omega)]; rfl
  | succ k ih =>
    unfold findP at ih ⊢
    rw [List.range_succ, List.flatMap_append, List.find?_append, ih]
    by_cases h : i < k ∧ g (ps.getD i pg0) = true
    · rw [if_pos h, if_pos ⟨by omega, h.2⟩]; rfl
    · rw [if_neg h]
      simp only [List.flatMap_cons, List.flatMap_nil, List.append_nil, Option.none_or]
      by_cases hk : i = k
      · subst hk
        by_cases hg : g (ps.getD i pg0) = true
        · have e : (if i < i + 1 ∧ g (ps.getD i pg0) = true then some (L.plc i (ps.getD i pg0)) else none) = some (L.plc i (ps.getD i pg0)) := if_pos ⟨by omega, hg⟩
          rw [e, if_pos hg]; simp [plc_page]
        · have e : (if i < i + 1 ∧ g (ps.getD i pg0) = true then some (L.plc i (ps.getD i pg0)) else none) = none := if_neg fun hh => hg hh.2
          rw [e, if_neg hg]; rfl
      · have e : (if i < k + 1 ∧ g (ps.getD i pg0) = true then some (L.plc i (ps.getD i pg0)) else none) = none := if_neg fun hh => h ⟨by omega, hh.2⟩
        rw [e]
        split
        · simp [plc_page]; omega
        · rfl
/-- What find answers. -/
def found (F Bk : List Pla) (page : Int) : Pla × Bool := match findP F page with
  | some p => (p, false)
  | none => match findP Bk page with
    | some p => (p, true)
    | none => (⟨0, 0, 0, 0⟩, false)
theorem found_page {L : Lay} (hs : L.style = 0) (ps : List Pg) {i k : Nat} (hi : i < k) : found (L.frontTo ps k) (L.backTo ps k) ((i : Int) + 1) = (L.plc i (ps.getD i pg0), (ps.getD i pg0).back) := by
  have h1 : findP (L.frontTo ps k) ((i : Int) + 1) = if i < k ∧ L.inF (ps.getD i pg0) = true then some (L.plc i (ps.getD i pg0)) else none := findP_range L ps L.inF i k
  have h2 : findP (L.backTo ps k) ((i : Int) + 1) = if i < k ∧ L.inB (ps.getD i pg0) = true then some (L.plc i (ps.getD i pg0)) else none := findP_range L ps L.inB i k
  have e1 : L.inF (ps.getD i pg0) = !(ps.getD i pg0).back := by unfold Lay.inF; rw [hs]; simp
  have e2 : L.inB (ps.getD i pg0) = (ps.getD i pg0).back := by unfold Lay.inB; rw [hs]; simp
  unfold found
  rw [h1, h2, e1, e2]
  cases hb : (ps.getD i pg0).back
  · rw [if_pos ⟨hi, rfl⟩]
  · rw [if_neg (by simp), if_pos ⟨hi, rfl⟩]
theorem plc_zero {L : Lay} (hs : L.style = 0) (i : Nat) (p : Pg) : L.plc i p = ⟨(i : Int) + 1, (L.placeB i p).x, (L.placeB i p).y, p.turn⟩ := by
  unfold Lay.plc; rw [if_neg (by omega), if_neg (by omega)]
/-- The law for leaf k. -/
theorem leaf_law {L : Lay} (ok : L.Ok) (hs : L.style = 0) {t : Nat} (ht : t < 4) (ho : (t % 2 == 1) = L.odd) {l : List Leaf} (hl : ∀ x ∈ l, x.c < L.C ∧ x.r < L.R) (hlen : l.length = L.C * L.R) {k : Nat} (hk : k < L.C * L.R) :
    let ps := pagesOf L.C t l
    let p := L.plc (2 * k) (ps.getD (2 * k) pg0)
    let q := L.plc (2 * k + 1) (ps.getD (2 * k + 1) pg0)
    p.page = 2 * k + 1 ∧ q.page = 2 * k + 2 ∧ (ps.getD (2 * k) pg0).back ≠ (ps.getD (2 * k + 1) pg0).back ∧
    p.x = L.sw - (q.x + L.bw q.turn) ∧ p.x + L.bw p.turn = L.sw - q.x ∧ p.y = q.y ∧ p.y + L.bh p.turn = q.y + L.bh q.turn := by
  intro ps p q
  obtain ⟨g1, g2⟩ := pagesOf_get L.C t l k (by omega)
  have e1 : ps.getD (2 * k) pg0 = pgUp L.C t (l[k]'(by omega)) := by rw [List.getD_eq_getElem?_getD, g1]; rfl
  have e2 : ps.getD (2 * k + 1) pg0 = pgDown L.C t (l[k]'(by omega)) := by rw [List.getD_eq_getElem?_getD, g2]; rfl
  obtain ⟨x1, x2⟩ := hl _ (List.getElem_mem (show k < l.length by omega))
  obtain ⟨b1, b2, b3, b4⟩ := back_to_back L.C t ht (l[k]'(by omega)) x1
  obtain ⟨t1, t2⟩ := pg_turn L.C t ht (l[k]'(by omega)) (l[k].fx != l[k].fy) l[k].fy
  obtain ⟨t3, t4⟩ := pg_turn L.C t ht (l[k]'(by omega)) (!(l[k].fx != l[k].fy)) (l[k].fy != (t % 2 == 1))
  have hqc : (pgDown L.C t (l[k]'(by omega))).col < L.C := by
    unfold pgDown pg; dsimp only; split <;> omega
  have hpo : ((pgUp L.C t (l[k]'(by omega))).turn % 2 == 1) = L.odd := by rw [← ho]; unfold pgUp; rw [t2]
  have hqo : ((pgDown L.C t (l[k]'(by omega))).turn % 2 == 1) = L.odd := by rw [← ho]; unfold pgDown; rw [t4]
  obtain ⟨r1, r2, r3, r4⟩ := leaf_registers ok hk b2 b3 hqc t1 t3 b4 hpo
  obtain ⟨_, _, _, _, w1, w2, _, _⟩ := placeB_in ok (i := 2 * k) (by omega) hpo
  obtain ⟨_, _, _, _, w3, w4, _, _⟩ := placeB_in ok (i := 2 * k + 1) (by omega) hqo
  have ep : p = ⟨((2 * k : Nat) : Int) + 1, (L.placeB (2 * k) (pgUp L.C t l[k])).x, (L.placeB (2 * k) (pgUp L.C t l[k])).y, (pgUp L.C t l[k]).turn⟩ := by
    show L.plc (2 * k) (ps.getD (2 * k) pg0) = _
    rw [e1, plc_zero hs]
  have eq : q = ⟨((2 * k + 1 : Nat) : Int) + 1, (L.placeB (2 * k + 1) (pgDown L.C t l[k])).x, (L.placeB (2 * k + 1) (pgDown L.C t l[k])).y, (pgDown L.C t l[k]).turn⟩ := by
    show L.plc (2 * k + 1) (ps.getD (2 * k + 1) pg0) = _
    rw [e2, plc_zero hs]
  rw [ep, eq, e1, e2]
  dsimp only
  rw [← w1, ← w2, ← w3, ← w4]
  refine ⟨by omega, by omega, b1, by omega, by omega, r2, by omega⟩
end Go.Proofs.Ytjcijogdcafloaa
