/- The map of kinds to numbers of kids, as cond makes it; counting plainly. -/
import Derived.Test.YtonmpealebggoaaDoorPrpCmp
import Derived.Test.YtonmpealebggoaaDoorArcMap
namespace Go.Proofs.YtonmpealebggoaaDoor
open Go.RowKit Pr
open Go.Maps (Keyed)
theorem lawI : Keyed Tryd.prog 3 := Maps.int_keyed Tryd.underlying3
theorem keyI (k : Int) (h : I64 k) : keyOf Tryd.prog 3 (.int .i64 k) = some (.int .i64 k) := by
  refine Maps.keyOf_int_mk Tryd.underlying3 ?_
  obtain ⟨h1, h2⟩ := h
  simp only [Lit.wf, Bool.and_eq_true, decide_eq_true_eq]
  have e1 : IntKind.min .i64 = -9223372036854775808 := rfl
  have e2 : IntKind.max .i64 = 9223372036854775807 := rfl
  omega
/-- How many kids a kind has. -/
def kidsN (k : Int) : Int := if k = 1 then 1 else if k = 2 ∨ k = 3 then 2 else 0
def nestB (k : Int) : Bool := decide (1 ≤ k ∧ k ≤ 3)
theorem sameKey_int (a b : Int) (h : I64 b) : (Lit.int .i64 a).sameKey (.int .i64 b) = decide (a = b) := by
  rw [Bool.eq_iff_iff, WideAt.sameKey_iff (lawI.key (keyI b h))]
  simp
theorem kids_map (w : World) : ∃ wa wb wc,
    (Instr.mapUpdate 107 (.map (some w.heap.size)) (.int .i64 1) (.int .i64 1)).run Tryd.prog (w.alloc (.map #[] 0)) = .ok () wa ∧
    (Instr.mapUpdate 107 (.map (some w.heap.size)) (.int .i64 2) (.int .i64 2)).run Tryd.prog wa = .ok () wb ∧
    (Instr.mapUpdate 107 (.map (some w.heap.size)) (.int .i64 3) (.int .i64 2)).run Tryd.prog wb = .ok () wc ∧
    (∀ k : Int, I64 k → (Instr.lookup 107 (.map (some w.heap.size)) (.int .i64 k) true).run Tryd.prog wc = .ok (.tuple #[.int .i64 (kidsN k), .bool (nestB k)]) wc) ∧ Below w.heap.size w wc := by
  have m0 := MapV.made w Tryd.prog 3
  obtain ⟨wa, ra, ma, ga⟩ := m0.put lawI Tryd.underlying107 (by unfold maxLen; omega) (keyI 1 (by unfold I64; omega)) (.int .i64 1)
  obtain ⟨wb, rb, mb, gb⟩ := ma.put lawI Tryd.underlying107 (by unfold maxLen; omega) (keyI 2 (by unfold I64; omega)) (.int .i64 2)
  obtain ⟨wc, rc, mc, gc⟩ := mb.put lawI Tryd.underlying107 (by unfold maxLen; omega) (keyI 3 (by unfold I64; omega)) (.int .i64 2)
  refine ⟨wa, wb, wc, ra, rb, rc, fun k hk => ?_, ?_⟩
  · have hz : (zeroValue 3).run Tryd.prog wc = .ok (.int .i64 0) wc := Tryd.zeroValue3 wc
    have := (mc.look lawI Tryd.underlying107 hz (keyI k hk)).2
    rw [this]
    have e3 := sameKey_int k 3 (by unfold I64; omega)
    have e2 := sameKey_int k 2 (by unfold I64; omega)
    have e1 := sameKey_int k 1 (by unfold I64; omega)
    rw [e3, e2, e1]
    clear e1 e2 e3 this
    unfold kidsN nestB
    by_cases h3 : k = 3
    · subst h3; rfl
    by_cases h2 : k = 2
    · subst h2; rfl
    by_cases h1 : k = 1
    · subst h1; rfl
    rw [decide_eq_false h3, decide_eq_false h2, decide_eq_false h1, if_neg h1, if_neg (show ¬ (k = 2 ∨ k = 3) by omega), decide_eq_false (show ¬ (1 ≤ k ∧ k ≤ 3) by omega)]; rfl
  · have hB := (Below.refl w.heap.size w).alloc (Nat.le_refl _) (.map #[] 0)
    exact ((hB.grown ga (by simp) (fun k hk => by injection hk with hk; omega)).grown gb (by have := ga.size; simp at this; omega) (fun k hk => by injection hk with hk; omega)).grown gc (by have := ga.size; have := gb.size; simp at *; omega) (fun k hk => by injection hk with hk; omega)
theorem condF_le : ∀ (f n : Nat) (o : Cd), (condF f n o).1 = 0 → (condF f n o).2 ≤ 256
  | 0, n, o, h => by unfold condF at h; dsimp only at h; split at h <;> simp at h
  | f + 1, n, o, h => by
    have kid : ∀ (l : List Cd) (m : Nat), m ≤ 256 → (kidsF (condF f) m l).1 = 0 → (kidsF (condF f) m l).2 ≤ 256 := fun l => by
      induction l with
      | nil => intro m hm _; exact hm
      | cons k r ih =>
        intro m hm h
        unfold kidsF at h ⊢
        by_cases h0 : (condF f m k).1 ≠ 0
        · rw [if_pos h0] at h; exact absurd h h0
        · rw [if_neg h0] at h ⊢
          exact ih _ (condF_le f m k (by simpa using h0)) h
    unfold condF at h ⊢
    by_cases h1 : 256 < n + 1
    · rw [if_pos h1] at h; simp at h
    rw [if_neg h1] at h ⊢
    by_cases c1 : o.kind = 0
    · rw [if_pos c1]; show n + 1 ≤ 256; omega
    rw [if_neg c1] at h ⊢
    by_cases c2 : o.kind < 1 ∨ 3 < o.kind
    · rw [if_pos c2]; show n + 1 ≤ 256; omega
    rw [if_neg c2] at h ⊢
    by_cases c3 : 0 < o.terms.length ∨ o.cmp ≠ 0 ∨ o.than ≠ 0 ∨ (o.kids.length : Int) ≠ (if o.kind = 1 then 1 else 2)
    · rw [if_pos c3]; show n + 1 ≤ 256; omega
    rw [if_neg c3] at h ⊢
    exact kid _ _ (by omega) h
end Go.Proofs.YtonmpealebggoaaDoor
