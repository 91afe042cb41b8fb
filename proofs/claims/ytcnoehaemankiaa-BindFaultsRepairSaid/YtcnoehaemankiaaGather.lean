/- The plain law on planned and gathered sections: they read as the pages of the book. -/
import Derived.Test.YtcnoehaemankiaaPlan
import Derived.Test.YtcnoehaemankiaaRead
import Derived.Test.YtcnoehaemankiaaEqualInts
import Derived.Test.YtcnoehaemankiaaWithin
namespace Go.Proofs.Ytcnoehaemankiaa
open Go.RowKit
theorem run_length (pages a : Int) (n : Nat) : (run pages a n).length = n := by simp [run]
theorem run_add (pages a : Int) (n m : Nat) : run pages a (n + m) = run pages a n ++ run pages (a + (n : Int)) m := by
  unfold run
  rw [List.range_add, List.map_append, List.map_map]
  congr 1
  apply List.map_congr_left
  intro i _
  simp only [Function.comp]; congr 1; omega
theorem run_take (pages a : Int) (n m : Nat) : (run pages a n ++ run pages (a + m) n).take n = run pages a n := by
  rw [List.take_append_of_le_length (by rw [run_length]; exact Nat.le_refl _), List.take_of_length_le (by rw [run_length]; exact Nat.le_refl _)]
def plans (st pages per m : Nat) : List (List Int) := (List.range m).map (planList st pages per m)
theorem sec_plans (st pages per m k : Nat) (h : k < m) : sec (plans st pages per m) k = planList st pages per m k := by
  simp [sec, plans, List.getD_eq_getElem?_getD, h]
theorem planList_length (st pages per m k : Nat) (h : per % 2 = 0) : (planList st pages per m k).length = per := by
  unfold planList; split <;> simp only [List.length_append, run_length] <;> omega
theorem gather_stack (pages per m : Nat) : ∀ k, k ≤ m → gather (sec (plans 0 pages per m)) (List.range k) = run pages 1 (k * per) := by
  intro k hk
  induction k with
  | zero => simp [gather, run]
  | succ k ih =>
    unfold gather at ih ⊢
    rw [List.range_succ, List.map_append, List.flatten_append, ih (by omega), Nat.add_mul, Nat.one_mul, run_add]
    congr 1
    simp only [List.map_cons, List.map_nil, List.flatten_cons, List.flatten_nil, List.append_nil]
    rw [sec_plans _ _ _ _ _ (by omega), planList, if_pos rfl]
    congr 1; omega
theorem front_plans (pages per m k : Nat) (h2 : per % 2 = 0) (h : k < m) : front (plans 1 pages per m) k = run pages ((k * (per / 2) + 1 : Nat) : Int) (per / 2) := by
  unfold front
  rw [sec_plans _ _ _ _ _ h, planList_length _ _ _ _ _ h2, planList, if_neg (by omega), List.take_append_of_le_length (by rw [run_length]; exact Nat.le_refl _), List.take_of_length_le (by rw [run_length]; exact Nat.le_refl _)]
theorem back_plans (pages per m k : Nat) (h2 : per % 2 = 0) (h : k < m) : back (plans 1 pages per m) k = run pages ((m * per - (k + 1) * (per / 2) + 1 : Nat) : Int) (per / 2) := by
  unfold back
  rw [sec_plans _ _ _ _ _ h, planList_length _ _ _ _ _ h2, planList, if_neg (by omega), List.drop_append_of_le_length (by rw [run_length]; exact Nat.le_refl _), List.drop_of_length_le (by rw [run_length]; exact Nat.le_refl _), List.nil_append]
theorem gather_front (pages per m : Nat) (h2 : per % 2 = 0) : ∀ k, k ≤ m → gather (front (plans 1 pages per m)) (List.range k) = run pages 1 (k * (per / 2)) := by
  intro k hk
  induction k with
  | zero => simp [gather, run]
  | succ k ih =>
    unfold gather at ih ⊢
    rw [List.range_succ, List.map_append, List.flatten_append, ih (by omega), Nat.add_mul, Nat.one_mul, run_add]
    congr 1
    simp only [List.map_cons, List.map_nil, List.flatten_cons, List.flatten_nil, List.append_nil]
    rw [front_plans _ _ _ _ h2 (by omega)]
    congr 1; omega
theorem gather_back (pages per m : Nat) (h2 : per % 2 = 0) : ∀ k, k ≤ m → gather (back (plans 1 pages per m)) (List.range k).reverse = run pages ((m * per - k * (per / 2) + 1 : Nat) : Int) (k * (per / 2)) := by
  intro k hk
  induction k with
  | zero => simp [gather, run]
  | succ k ih =>
    unfold gather at ih ⊢
    rw [List.range_succ, List.reverse_append, List.map_append, List.flatten_append, ih (by omega)]
    simp only [List.reverse_cons, List.reverse_nil, List.nil_append, List.map_cons, List.map_nil, List.flatten_cons, List.flatten_nil, List.append_nil]
    rw [back_plans _ _ _ _ h2 (by omega), Nat.add_mul k 1, Nat.one_mul, Nat.add_comm (k * (per / 2)) (per / 2), run_add]
    congr 2
    have h1 : (k + 1) * (per / 2) ≤ m * per := Nat.mul_le_mul hk (Nat.div_le_self _ _)
    rw [Nat.add_mul, Nat.one_mul] at h1
    omega
theorem gather_nest (pages per m : Nat) (h2 : per % 2 = 0) : gather (front (plans 1 pages per m)) (List.range m) ++ gather (back (plans 1 pages per m)) (List.range m).reverse = run pages 1 (m * per) := by
  rw [gather_front _ _ _ h2 m (Nat.le_refl _), gather_back _ _ _ h2 m (Nat.le_refl _)]
  have e : m * per = m * (per / 2) + m * (per / 2) := by
    rw [← Nat.mul_add]; congr 1; omega
  rw [e, run_add]
  congr 2; omega
theorem plan_secs {st pages per : Nat} {w w' : World} {e : Ending} (h : PlanPost st pages per w e w') (hm : 0 < many pages per) (h2 : per % 2 = 0) (hp : 2 ≤ per) (hp2 : per ≤ 64) :
    ∃ ad cap, e = .returned (.tuple #[.slice (some ad) (many pages per) cap, .int .i64 0]) ∧ Secs w' ad (many pages per) (plans st pages per (many pages per)) ∧ Below w.heap.size w w' := by
  obtain ⟨v, vals, rfl, hl, hs, hall, hb⟩ := h
  have hlen : (plans st pages per (many pages per)).length = many pages per := by simp [plans]
  obtain ⟨ad, cap, rfl, hsec⟩ := secs_of (Ls := plans st pages per (many pages per)) hs (by rw [hl, hlen]) (by rw [hlen]; exact hm)
    (fun i u hu => by
      have hi : i < many pages per := by rw [← hl]; exact (List.getElem?_eq_some_iff.1 hu).1
      rw [sec_plans _ _ _ _ _ hi]; exact hall i u hu)
    (fun k hk => by rw [hlen] at hk; rw [sec_plans _ _ _ _ _ hk, planList_length _ _ _ _ _ h2]; omega)
  rw [hlen] at hsec ⊢
  exact ⟨ad, cap, rfl, hsec, hb⟩
theorem Secs.later {w w' : World} {ad : Addr} {m : Nat} {Ls : List (List Int)} (h : Secs w ad m Ls) (hb : Below w.heap.size w w') : Secs w' ad m Ls :=
  ⟨h.len, Nat.lt_of_lt_of_le h.blk hb.size, fun k hk => by
    obtain ⟨a, c, h1, h2, h3⟩ := h.cell k hk
    exact ⟨a, c, (hb.cell (p := ad.add k) (by rw [add_block]; exact h.blk)).trans h1, Nat.lt_of_lt_of_le h2 hb.size, h3.later hb⟩, h.two⟩
end Go.Proofs.Ytcnoehaemankiaa
