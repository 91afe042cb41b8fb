/- The plain law of repaired faults. No program is in sight here. -/
import Derived.Test.YtcnoehaemankiaaWrongLaw
namespace Go.Proofs.Ytcnoehaemankiaa
open Go.RowKit
/-- The values at the first i positions that are kept. -/
def restTo (o : List Int) (K : List Nat) (i : Nat) : List Int := ((List.range i).filter fun p => decide (p ∈ K)).map (at_ o)
theorem restTo_yes (o : List Int) (K : List Nat) (i : Nat) (h : i ∈ K) : restTo o K (i + 1) = restTo o K i ++ [at_ o i] := by
  unfold restTo; rw [List.range_succ, List.filter_append]; simp [h]
theorem restTo_no (o : List Int) (K : List Nat) (i : Nat) (h : ¬ i ∈ K) : restTo o K (i + 1) = restTo o K i := by
  unfold restTo; rw [List.range_succ, List.filter_append]; simp [h]
theorem restTo_len (o : List Int) (K : List Nat) (i : Nat) : (restTo o K i).length ≤ i := by
  unfold restTo; rw [List.length_map]; exact Nat.le_trans (List.length_filter_le _ _) (by simp)
theorem Keep.lt_of {o : List Int} {n : Nat} {K : List Nat} (h : Keep o n K) {p q : Nat} (hp : p ∈ K) (hq : q ∈ K) (hpq : p < q) : at_ o p < at_ o q := by
  obtain ⟨a, ha, rfl⟩ := mem_kat.1 hp
  obtain ⟨b, hb, rfl⟩ := mem_kat.1 hq
  refine h.val a b ?_ hb
  rcases Nat.lt_trichotomy a b with c | c | c
  · exact c
  · subst c; omega
  · have := h.pos b a c ha; omega
theorem rest_up {o : List Int} {n : Nat} {K : List Nat} (h : Keep o n K) (i : Nat) : (restTo o K i).Pairwise (· < ·) := by
  unfold restTo
  rw [List.pairwise_map]
  have h1 := (List.pairwise_lt_range (n := i)).filter (fun p => decide (p ∈ K))
  refine List.Pairwise.imp_of_mem ?_ h1
  intro a b ha hb hab
  exact h.lt_of (by simpa using (List.mem_filter.1 ha).2) (by simpa using (List.mem_filter.1 hb).2) hab
theorem rest_step {o : List Int} {n : Nat} {K : List Nat} (h : Keep o n K) (i a : Nat) (ha : a + 1 < (restTo o K i).length) : at_ (restTo o K i) a < at_ (restTo o K i) (a + 1) := by
  have := List.pairwise_iff_getElem.1 (rest_up h i) a (a + 1) (by omega) ha (by omega)
  simpa [at_, List.getD_eq_getElem?_getD, List.getElem?_eq_getElem ha, List.getElem?_eq_getElem (show a < (restTo o K i).length by omega)] using this
theorem mem_rest {o : List Int} {K : List Nat} {i : Nat} {x : Int} : x ∈ restTo o K i ↔ ∃ p, p < i ∧ p ∈ K ∧ at_ o p = x := by
  unfold restTo
  simp only [List.mem_map, List.mem_filter, List.mem_range, decide_eq_true_eq]
  constructor
  · rintro ⟨p, ⟨h1, h2⟩, h3⟩; exact ⟨p, h1, h2, h3⟩
  · rintro ⟨p, h1, h2, h3⟩; exact ⟨p, ⟨h1, h2⟩, h3⟩
theorem mem_extra {o : List Int} {K : List Nat} {n i : Nat} : ((i : Int) ∈ extraTo o K n) ↔ (i < n ∧ ¬ i ∈ K ∧ Dup o K i) := by
  unfold extraTo
  simp only [List.mem_map, List.mem_filter, List.mem_range, decide_eq_true_eq]
  constructor
  · rintro ⟨p, ⟨h1, h2⟩, h3⟩
    have h3 : (p : Int) = (i : Int) := h3
    have : p = i := by omega
    subst this; exact ⟨h1, h2.1, h2.2⟩
  · rintro ⟨h1, h2, h3⟩; exact ⟨i, ⟨h1, h2, h3⟩, rfl⟩
theorem mem_moved {o : List Int} {K : List Nat} {n i : Nat} : ((i : Int) ∈ movedTo o K n) ↔ (i < n ∧ ¬ i ∈ K ∧ ¬ Dup o K i) := by
  unfold movedTo
  simp only [List.mem_map, List.mem_filter, List.mem_range, decide_eq_true_eq]
  constructor
  · rintro ⟨p, ⟨h1, h2⟩, h3⟩
    have h3 : (p : Int) = (i : Int) := h3
    have : p = i := by omega
    subst this; exact ⟨h1, h2.1, h2.2⟩
  · rintro ⟨h1, h2, h3⟩; exact ⟨i, ⟨h1, h2, h3⟩, rfl⟩
theorem moved_at {o : List Int} {K : List Nat} {n t : Nat} (ht : t < (movedTo o K n).length) : ∃ p : Nat, at_ (movedTo o K n) t = (p : Int) ∧ p < n := by
  have hm : at_ (movedTo o K n) t ∈ movedTo o K n := by
    simp [at_, List.getD_eq_getElem?_getD, List.getElem?_eq_getElem ht]
  have hm2 := hm
  unfold movedTo at hm2
  rw [List.mem_map] at hm2
  obtain ⟨p, _, e⟩ := hm2
  have e : (p : Int) = at_ (movedTo o K n) t := e
  rw [← e] at hm
  exact ⟨p, e.symm, (mem_moved.1 hm).1⟩
theorem kept_iff {o : List Int} {K : List Nat} {i : Nat} (hi : i < o.length) : i ∈ K ↔ ¬ ((i : Int) ∈ extraTo o K o.length) ∧ ¬ ((i : Int) ∈ movedTo o K o.length) := by
  rw [mem_extra, mem_moved]
  constructor
  · intro h; exact ⟨fun a => a.2.1 h, fun a => a.2.1 h⟩
  · intro ⟨h1, h2⟩
    by_cases hk : i ∈ K
    · exact hk
    · by_cases hd : Dup o K i
      · exact absurd ⟨hi, hk, hd⟩ h1
      · exact absurd ⟨hi, hk, hd⟩ h2
theorem mem_miss {o : List Int} {m : Nat} {x : Int} : x ∈ missTo o m ↔ (0 ≤ x ∧ x < m ∧ ¬ x ∈ o) := by
  unfold missTo
  simp only [List.mem_map, List.mem_filter, List.mem_range]
  constructor
  · rintro ⟨p, ⟨h1, h2⟩, h3⟩
    have h3 : (p : Int) = x := h3
    subst h3
    exact ⟨by omega, by omega, by simpa using h2⟩
  · rintro ⟨h1, h2, h3⟩
    obtain ⟨p, rfl⟩ := Int.eq_ofNat_of_zero_le h1
    exact ⟨p, ⟨by omega, by simpa using h3⟩, rfl⟩
theorem miss_nodup (o : List Int) (m : Nat) : (missTo o m).Nodup := by
  unfold missTo
  rw [List.nodup_iff_pairwise_ne, List.pairwise_map]
  refine List.Pairwise.imp ?_ ((List.nodup_iff_pairwise_ne.1 (List.nodup_range (n := m))).filter _)
  intro a b h e
  exact h (by have e : (a : Int) = (b : Int) := e; omega)
/-- What is gathered after t of the moved ones. -/
structure Acc (o : List Int) (base : List Int) (mv : List Int) (t : Nat) (acc : List Int) : Prop where
  nodup : acc.Nodup
  len : acc.length ≤ base.length + t
  mem : ∀ x, x ∈ acc ↔ x ∈ base ∨ ∃ s, s < t ∧ at_ o (at_ mv s).toNat = x
theorem Acc.start {o base mv : List Int} (h : base.Nodup) : Acc o base mv 0 base := ⟨h, by omega, fun x => ⟨fun h => .inl h, fun h => by rcases h with h | ⟨s, hs, _⟩; exact h; omega⟩⟩
theorem Acc.skip {o base mv acc : List Int} {t : Nat} (h : Acc o base mv t acc) (hx : at_ o (at_ mv t).toNat ∈ acc) : Acc o base mv (t + 1) acc := by
  refine ⟨h.nodup, by have := h.len; omega, fun x => ?_⟩
  rw [h.mem x]
  constructor
  · rintro (h1 | ⟨s, hs, e⟩)
    · exact .inl h1
    · exact .inr ⟨s, by omega, e⟩
  · rintro (h1 | ⟨s, hs, e⟩)
    · exact .inl h1
    · rcases Nat.lt_or_ge s t with c | c
      · exact .inr ⟨s, c, e⟩
      · have : s = t := by omega
        subst this; subst e
        exact (h.mem _).1 hx
theorem Acc.add {o base mv acc : List Int} {t : Nat} (h : Acc o base mv t acc) (hx : ¬ at_ o (at_ mv t).toNat ∈ acc) : Acc o base mv (t + 1) (acc ++ [at_ o (at_ mv t).toNat]) := by
  refine ⟨?_, by have := h.len; simp; omega, fun x => ?_⟩
  · rw [List.nodup_append]
    exact ⟨h.nodup, by simp, fun a ha b hb e => by have : b = at_ o (at_ mv t).toNat := by simpa using hb
                                                   subst this; subst e; exact hx ha⟩
  · rw [List.mem_append, h.mem x]
    constructor
    · rintro ((h1 | ⟨s, hs, e⟩) | h1)
      · exact .inl h1
      · exact .inr ⟨s, by omega, e⟩
      · exact .inr ⟨t, by omega, (List.mem_singleton.1 h1).symm⟩
    · rintro (h1 | ⟨s, hs, e⟩)
      · exact .inl (.inl h1)
      · rcases Nat.lt_or_ge s t with c | c
        · exact .inl (.inr ⟨s, c, e⟩)
        · have : s = t := by omega
          subst this; exact .inr (by simp [e])
theorem at_mem {l : List Int} {i : Nat} (h : i < l.length) : at_ l i ∈ l := by simp [at_, List.getD_eq_getElem?_getD, List.getElem?_eq_getElem h]
theorem mem_at {l : List Int} {x : Int} (h : x ∈ l) : ∃ i, i < l.length ∧ at_ l i = x := by
  obtain ⟨i, hi, e⟩ := List.getElem_of_mem h
  exact ⟨i, hi, by simp [at_, List.getD_eq_getElem?_getD, List.getElem?_eq_getElem hi, e]⟩
/-- At the end every section is there once. -/
theorem all_once {o : List Int} {m : Nat} {K : List Nat} {mw : Int} {acc : List Int} (hok : FOk o m) (hK : KI o o.length mw K) (h : Acc o (restTo o K o.length ++ missTo o m) (movedTo o K o.length) (movedTo o K o.length).length acc) :
    (acc.mergeSort fun x y => decide (x ≤ y)) = (List.range m).map Int.ofNat := by
  have hmem : ∀ x, x ∈ acc ↔ (0 ≤ x ∧ x < m) := by
    intro x
    rw [h.mem x, List.mem_append, mem_rest, mem_miss]
    constructor
    · rintro ((⟨p, h1, h2, rfl⟩ | h1) | ⟨s, hs, rfl⟩)
      · exact hok.rng p h1
      · exact ⟨h1.1, h1.2.1⟩
      · obtain ⟨p, hp, hpl⟩ := moved_at hs
        rw [hp, Int.toNat_natCast]; exact hok.rng p hpl
    · intro ⟨h1, h2⟩
      by_cases hx : x ∈ o
      · obtain ⟨i, hi, rfl⟩ := mem_at hx
        by_cases hk : i ∈ K
        · exact .inl (.inl ⟨i, hi, hk, rfl⟩)
        · by_cases hd : Dup o K i
          · obtain ⟨a, ha, e⟩ := hd
            have hl := hK.keep.lt a ha
            exact .inl (.inl ⟨kat K a, hl, mem_kat.2 ⟨a, ha, rfl⟩, e⟩)
          · have hm := mem_moved.2 ⟨hi, hk, hd⟩
            obtain ⟨s, hs, e⟩ := mem_at hm
            exact .inr ⟨s, hs, by rw [e, Int.toNat_natCast]⟩
      · exact .inl (.inr ⟨h1, h2, hx⟩)
  have hnd : ((List.range m).map Int.ofNat).Nodup := by
    rw [List.nodup_iff_pairwise_ne, List.pairwise_map]
    refine List.Pairwise.imp ?_ (List.nodup_iff_pairwise_ne.1 (List.nodup_range (n := m)))
    intro a b h e
    exact h (by have e : (a : Int) = (b : Int) := e; omega)
  have hperm : acc.Perm ((List.range m).map Int.ofNat) := by
    rw [List.perm_ext_iff_of_nodup h.nodup hnd]
    intro x
    rw [hmem x, List.mem_map]
    constructor
    · intro ⟨h1, h2⟩
      obtain ⟨p, rfl⟩ := Int.eq_ofNat_of_zero_le h1
      exact ⟨p, by simp; omega, rfl⟩
    · rintro ⟨p, hp, e⟩
      have e : (p : Int) = x := e
      have : p < m := by simpa using hp
      omega
  have hs := List.pairwise_mergeSort (le := fun x y : Int => decide (x ≤ y)) (fun a b c h1 h2 => by simp at h1 h2 ⊢; omega) (fun a b => by simp; omega) acc
  refine List.Perm.eq_of_pairwise (le := fun a b : Int => decide (a ≤ b) = true) (fun a b _ _ h1 h2 => by simp at h1 h2; omega) hs ?_ ((List.mergeSort_perm _ _).trans hperm)
  rw [List.pairwise_map]
  refine List.Pairwise.imp ?_ (List.pairwise_lt_range (n := m))
  intro a b h
  simp; omega
theorem base_nodup {o : List Int} {m : Nat} {K : List Nat} {mw : Int} (hK : KI o o.length mw K) : (restTo o K o.length ++ missTo o m).Nodup := by
  rw [List.nodup_append]
  refine ⟨?_, miss_nodup o m, fun a ha b hb e => ?_⟩
  · rw [List.nodup_iff_pairwise_ne]
    exact List.Pairwise.imp (fun h => by omega) (rest_up hK.keep o.length)
  · subst e
    obtain ⟨p, hp, _, rfl⟩ := mem_rest.1 ha
    exact (mem_miss.1 hb).2.2 (at_mem hp)
theorem start2 {K : List Nat} {mw : Int} (h : KI [0, 0, 2] ([0, 0, 2] : List Int).length mw K) : extraTo [0, 0, 2] K ([0, 0, 2] : List Int).length = [1] ∧ missTo [0, 0, 2] 3 = [1] := by
  have e : K = [0, 2] := by
    have h1 : (grd [0, 0, 2] 3).2 = K := congrArg Prod.snd h.eq
    rw [← h1]; decide
  subst e
  have d : Dup [0, 0, 2] [0, 2] 1 := ⟨0, by decide, by decide⟩
  refine ⟨?_, by decide⟩
  show extraTo [0, 0, 2] [0, 2] 3 = [1]
  rw [extraTo_succ_no _ _ 2 (by simp), extraTo_succ_yes _ _ 1 ⟨by simp, d⟩, extraTo_succ_no _ _ 0 (by simp)]
  rfl
theorem start2_ok : FOk [0, 0, 2] 3 := ⟨by decide, by decide, by decide, fun i hi => by
  have : i = 0 ∨ i = 1 ∨ i = 2 := by simp at hi; omega
  rcases this with rfl | rfl | rfl <;> decide⟩
end Go.Proofs.Ytcnoehaemankiaa
