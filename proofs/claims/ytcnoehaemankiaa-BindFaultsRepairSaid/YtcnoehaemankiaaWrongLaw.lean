/- The plain law of a wrong order: the book reads through just if nothing moved. No program is in sight here. -/
import Derived.Test.YtcnoehaemankiaaFaults
import Derived.Test.YtcnoehaemankiaaGather
import Derived.Test.YtcnoehaemankiaaSortedInts
namespace Go.Proofs.Ytcnoehaemankiaa
open Go.RowKit
theorem nats_eq (P : List Nat) : nats P = nats_ P := rfl
theorem at_nats (P : List Nat) (i : Nat) (h : i < P.length) : at_ (nats P) i = (kat P i : Int) := by
  simp [at_, nats, kat, List.getD_eq_getElem?_getD, List.getElem?_eq_getElem h]
theorem mem_kat {P : List Nat} {x : Nat} : x ∈ P ↔ ∃ a, a < P.length ∧ kat P a = x := by
  rw [List.mem_iff_getElem]
  constructor
  · rintro ⟨a, h, e⟩; exact ⟨a, h, by simp [kat, List.getD_eq_getElem?_getD, List.getElem?_eq_getElem h, e]⟩
  · rintro ⟨a, h, e⟩; exact ⟨a, h, by simpa [kat, List.getD_eq_getElem?_getD, List.getElem?_eq_getElem h] using e⟩
theorem kat_inj {P : List Nat} (h : P.Nodup) {a b : Nat} (ha : a < P.length) (hb : b < P.length) (e : kat P a = kat P b) : a = b := by
  simp [kat, List.getD_eq_getElem?_getD, List.getElem?_eq_getElem ha, List.getElem?_eq_getElem hb] at e
  exact (List.getElem_inj h).1 e
/-- P is an order of m sections. -/
def Ord (m : Nat) (P : List Nat) : Prop := List.Perm P (List.range m)
section
variable {m : Nat} {P : List Nat}
theorem Ord.len (h : Ord m P) : P.length = m := by have := List.Perm.length_eq h; simpa using this
theorem Ord.nodup (h : Ord m P) : P.Nodup := (List.Perm.nodup_iff h).2 List.nodup_range
theorem Ord.lt (h : Ord m P) (a : Nat) (ha : a < P.length) : kat P a < m := by
  have := (List.Perm.mem_iff h).1 (mem_kat.2 ⟨a, ha, rfl⟩)
  simpa using this
theorem Ord.all (h : Ord m P) (k : Nat) (hk : k < m) : k ∈ P := (List.Perm.mem_iff h).2 (by simpa using hk)
theorem Ord.swap (h : Ord m P) {i j : Nat} (hi : i < P.length) (hj : j < P.length) : Ord m ((P.set i (kat P j)).set j (kat P i)) := by
  have := List.set_set_perm hi hj
  refine List.Perm.trans ?_ h
  simpa [kat, List.getD_eq_getElem?_getD, List.getElem?_eq_getElem hi, List.getElem?_eq_getElem hj] using this
theorem Ord.ok (h : Ord m P) (h1 : 1 ≤ m) (h2 : m ≤ 64) : FOk (nats P) m := by
  have hl := h.len
  refine ⟨by omega, by omega, by rw [nats_length]; omega, fun i hi => ?_⟩
  rw [nats_length] at hi
  have := h.lt i hi
  rw [at_nats P i hi]; omega
theorem Ord.miss (h : Ord m P) : missTo (nats P) m = [] := by
  unfold missTo
  rw [List.map_eq_nil_iff, List.filter_eq_nil_iff]
  intro k hk
  have hk : k < m := by simpa using hk
  have := (mem_nats_ P k).2 (h.all k hk)
  rw [← nats_eq] at this
  simp [this]
theorem Ord.extra (h : Ord m P) {K : List Nat} (hK : Keep (nats P) P.length K) : extraTo (nats P) K P.length = [] := by
  unfold extraTo
  rw [List.map_eq_nil_iff, List.filter_eq_nil_iff]
  intro i hi hd
  have hi : i < P.length := by simpa using hi
  simp only [decide_eq_true_eq] at hd
  obtain ⟨h1, a, ha, e⟩ := hd
  have hl := hK.lt a ha
  rw [at_nats P _ hl, at_nats P i hi] at e
  have := kat_inj h.nodup hl hi (by omega)
  exact h1 (mem_kat.2 ⟨a, ha, this⟩)
theorem moved_inc {o : List Int} {K : List Nat} {mw : Int} (hK : KI o o.length mw K) (he : extraTo o K o.length = []) : movedTo o K o.length = [] ↔ Inc o := by
  constructor
  · intro hm
    have hall : ∀ i, i < o.length → i ∈ K := by
      intro i hi
      unfold extraTo at he
      unfold movedTo at hm
      rw [List.map_eq_nil_iff, List.filter_eq_nil_iff] at he hm
      have h1 := he i (by simpa using hi)
      have h2 := hm i (by simpa using hi)
      simp only [decide_eq_true_eq] at h1 h2
      by_cases hik : i ∈ K
      · exact hik
      · by_cases hd : Dup o K i
        · exact absurd ⟨hik, hd⟩ h1
        · exact absurd ⟨hik, hd⟩ h2
    intro i j hij hj
    obtain ⟨a, ha, ea⟩ := mem_kat.1 (hall i (by omega))
    obtain ⟨b, hb, eb⟩ := mem_kat.1 (hall j hj)
    have hab : a < b := by
      rcases Nat.lt_trichotomy a b with c | c | c
      · exact c
      · subst c; omega
      · have := hK.keep.pos b a c ha; omega
    have := hK.keep.val a b hab hb
    rwa [ea, eb] at this
  · intro hI
    obtain ⟨e, _⟩ := hK.inc hI
    unfold movedTo
    rw [List.map_eq_nil_iff, List.filter_eq_nil_iff]
    intro i hi
    have hi : i < o.length := by simpa using hi
    have : i ∈ K := by rw [e]; simpa using hi
    simp [this]
/-- Neighbours increase. -/
def Up (P : List Nat) : Prop := ∀ a, a + 1 < P.length → kat P a < kat P (a + 1)
theorem up_inc (P : List Nat) : Up P ↔ Inc (nats P) := by
  constructor
  · intro h a b hab hb
    rw [nats_length] at hb
    rw [at_nats P a (by omega), at_nats P b hb]
    have key : ∀ d, a + d + 1 < P.length → kat P a < kat P (a + d + 1) := by
      intro d
      induction d with
      | zero => intro h1; exact h a h1
      | succ d ih => intro h1; have := ih (by omega); have := h (a + d + 1) h1; rw [show a + (d + 1) + 1 = a + d + 1 + 1 by omega]; omega
    have := key (b - a - 1) (by omega)
    rw [show a + (b - a - 1) + 1 = b by omega] at this
    omega
  · intro h a ha
    have := h a (a + 1) (by omega) (by rw [nats_length]; exact ha)
    rw [at_nats P a (by omega), at_nats P (a + 1) ha] at this
    omega
theorem Ord.asc (h : Ord m P) : Asc (nats P) ↔ Inc (nats P) := by
  rw [← up_inc]
  constructor
  · intro hA a ha
    have := hA a (by rw [nats_length]; exact ha)
    have e1 := at_nats P a (by omega)
    have e2 := at_nats P (a + 1) ha
    unfold at_ at e1 e2
    rw [e1, e2] at this
    have hne : kat P a ≠ kat P (a + 1) := fun e => by have := kat_inj h.nodup (by omega) ha e; omega
    omega
  · intro hU a ha
    rw [nats_length] at ha
    have := hU a ha
    have e1 := at_nats P a (by omega)
    have e2 := at_nats P (a + 1) ha
    unfold at_ at e1 e2
    rw [e1, e2]; omega
end
/-- The pages of whole sections, one after another. -/
theorem gather_len (f : Nat → List Int) (per : Nat) (P : List Nat) (hf : ∀ k, k ∈ P → (f k).length = per) : (gather f P).length = P.length * per := by
  induction P with
  | nil => simp [gather]
  | cons x P ih =>
    have e : gather f (x :: P) = f x ++ gather f P := by simp [gather]
    rw [e, List.length_append, ih (fun k hk => hf k (by simp [hk])), hf x (by simp), List.length_cons, Nat.add_mul]; omega
theorem gather_at (f : Nat → List Int) (per : Nat) (P : List Nat) (hf : ∀ k, k ∈ P → (f k).length = per) (a b : Nat) (ha : a < P.length) (hb : b < per) : (gather f P).getD (a * per + b) 0 = (f (kat P a)).getD b 0 := by
  induction P generalizing a with
  | nil => simp at ha
  | cons x P ih =>
    have e : gather f (x :: P) = f x ++ gather f P := by simp [gather]
    have hx := hf x (by simp)
    rw [e, List.getD_eq_getElem?_getD]
    cases a with
    | zero => rw [List.getElem?_append_left (by rw [hx]; omega)]; simp [kat]
    | succ a =>
      rw [List.getElem?_append_right (by rw [hx, Nat.add_mul]; omega), hx, show (a + 1) * per + b - per = a * per + b by rw [Nat.add_mul]; omega, ← List.getD_eq_getElem?_getD, ih (fun k hk => hf k (by simp [hk])) a (by simpa using ha)]
      simp [kat]
theorem run_at (m per k b : Nat) (hk : k < m) (hb : b < per) : (run ((m * per : Nat) : Int) ((k * per + 1 : Nat) : Int) per).getD b 0 = ((k * per + 1 + b : Nat) : Int) := by
  have hle : (k + 1) * per ≤ m * per := Nat.mul_le_mul_right per (by omega)
  rw [Nat.add_mul] at hle
  simp [run, List.getD_eq_getElem?_getD, hb, clip]
  omega
theorem Ord.read {m per : Nat} {P : List Nat} (h : Ord m P) (hper : 2 ≤ per) : Asc (gather (sec (plans 0 (m * per) per m)) P) ↔ Inc (nats P) := by
  have hsec : ∀ k, k ∈ P → sec (plans 0 (m * per) per m) k = run ((m * per : Nat) : Int) ((k * per + 1 : Nat) : Int) per := fun k hk => by
    obtain ⟨a, ha, rfl⟩ := mem_kat.1 hk
    rw [sec_plans _ _ _ _ _ (h.lt a ha), planList, if_pos rfl]
  have hlen : ∀ k, k ∈ P → (sec (plans 0 (m * per) per m) k).length = per := fun k hk => by rw [hsec k hk, run_length]
  have hat : ∀ a b, a < P.length → b < per → (gather (sec (plans 0 (m * per) per m)) P).getD (a * per + b) 0 = ((kat P a * per + 1 + b : Nat) : Int) := fun a b ha hb => by
    rw [gather_at _ per P hlen a b ha hb, hsec _ (mem_kat.2 ⟨a, ha, rfl⟩), run_at m per _ b (h.lt a ha) hb]
  have hl := gather_len _ per P hlen
  rw [← up_inc]
  constructor
  · intro hA a ha
    have h1 := hA (a * per + (per - 1)) (by
      rw [hl]
      have : (a + 2) * per ≤ P.length * per := Nat.mul_le_mul_right per (by omega)
      rw [Nat.add_mul] at this; omega)
    rw [show a * per + (per - 1) + 1 = (a + 1) * per + 0 by rw [Nat.add_mul]; omega, hat a (per - 1) (by omega) (by omega), hat (a + 1) 0 ha (by omega)] at h1
    rcases Nat.lt_or_ge (kat P a) (kat P (a + 1)) with c | c
    · exact c
    · have := Nat.mul_le_mul_right per c
      omega
  · intro hU t ht
    rw [hl] at ht
    have hp : 0 < per := by omega
    have e := Nat.div_add_mod t per
    have hm := Nat.mod_lt t hp
    rw [Nat.mul_comm] at e
    generalize t / per = a at *
    generalize t % per = b at *
    subst e
    have ha : a < P.length := by
      rcases Nat.lt_or_ge a P.length with c | c
      · exact c
      · have := Nat.mul_le_mul_right per c; omega
    rw [hat a b ha hm]
    rcases Nat.lt_or_ge (b + 1) per with c | c
    · have h2 := hat a (b + 1) ha c
      rw [show a * per + (b + 1) = a * per + b + 1 from rfl] at h2
      rw [h2]; omega
    · have ha2 : a + 1 < P.length := by
        rcases Nat.lt_or_ge (a + 1) P.length with c2 | c2
        · exact c2
        · have := Nat.mul_le_mul_right per c2
          rw [Nat.add_mul] at this; omega
      rw [show a * per + b + 1 = (a + 1) * per + 0 by rw [Nat.add_mul]; omega, hat (a + 1) 0 ha2 hp]
      have := Nat.mul_le_mul_right per (show kat P a + 1 ≤ kat P (a + 1) from hU a ha2)
      rw [Nat.add_mul] at this
      omega
theorem start_moved {K : List Nat} {mw : Int} (h : KI [1, 0] ([1, 0] : List Int).length mw K) : (movedTo [1, 0] K ([1, 0] : List Int).length).length = 1 := by
  have e : K = [0] := by
    have h1 : (grd [1, 0] 2).2 = K := congrArg Prod.snd h.eq
    rw [← h1]; decide
  subst e
  have e1 : movedTo [1, 0] [0] 1 = [] := by rw [movedTo_succ_no _ _ 0 (by simp)]; rfl
  have e2 : movedTo [1, 0] [0] 2 = [1] := by
    rw [movedTo_succ_yes _ _ 1 ⟨by simp, fun ⟨a, ha, h⟩ => by
      have : a = 0 := by simpa using ha
      subst this
      revert h; decide⟩, e1]; rfl
  show (movedTo [1, 0] [0] 2).length = 1
  rw [e2]; rfl
theorem start_ok : FOk [1, 0] 2 := ⟨by decide, by decide, by decide, fun i hi => by
  have : i = 0 ∨ i = 1 := by simp at hi; omega
  rcases this with rfl | rfl <;> decide⟩
end Go.Proofs.Ytcnoehaemankiaa
