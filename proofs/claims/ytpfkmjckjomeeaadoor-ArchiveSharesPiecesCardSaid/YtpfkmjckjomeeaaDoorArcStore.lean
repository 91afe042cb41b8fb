/- The archive's pieces and names in plain words: what keep, Put, Drop and Collect make of them. No program is in sight here. -/
import Derived.Test.YtpfkmjckjomeeaaDoorArcPlain
namespace Go.Proofs.YtpfkmjckjomeeaaDoor
namespace Arc
structure Pcs where
  L : List (BitVec 32)
  f : BitVec 32 → List ByteArray
def Pcs.none : Pcs := ⟨[], fun _ => []⟩
def Pcs.add (p : Pcs) (s : ByteArray) : Pcs := ⟨if key s ∈ p.L then p.L else p.L ++ [key s], fun k => if k = key s then p.f k ++ [s] else p.f k⟩
def Pcs.keep (p : Pcs) (s : ByteArray) : Pcs × Nat := if s ∈ p.f (key s) then (p, (p.f (key s)).idxOf s) else (p.add s, (p.f (key s)).length)
structure Pcs.Ok (p : Pcs) : Prop where
  nd : p.L.Nodup
  em : ∀ k, p.f k ≠ [] ↔ k ∈ p.L
  ke : ∀ k s, s ∈ p.f k → key s = k
  un : ∀ k, (p.f k).Nodup
/-- Later pieces stand behind the earlier ones. -/
def Pcs.Le (p q : Pcs) : Prop := ∀ k, p.f k <+: q.f k
theorem Pcs.Le.refl (p : Pcs) : p.Le p := fun _ => List.prefix_refl _
theorem Pcs.Le.trans {p q r : Pcs} (h : p.Le q) (h2 : q.Le r) : p.Le r := fun k => (h k).trans (h2 k)
theorem Pcs.Le.get {p q : Pcs} (h : p.Le q) {k : BitVec 32} {i : Nat} {s : ByteArray} (hs : (p.f k)[i]? = some s) : (q.f k)[i]? = some s := by
  obtain ⟨t, ht⟩ := h k
  rw [← ht, List.getElem?_append_left (List.getElem?_eq_some_iff.1 hs).1]; exact hs
theorem Pcs.none_ok : Pcs.none.Ok := ⟨List.nodup_nil, fun k => by simp [Pcs.none], fun k s h => by simp [Pcs.none] at h, fun k => by simp [Pcs.none]⟩
theorem Pcs.add_ok {p : Pcs} (h : p.Ok) {s : ByteArray} (hs : s ∉ p.f (key s)) : (p.add s).Ok := by
  refine ⟨?_, fun k => ?_, fun k x hx => ?_, fun k => ?_⟩
  · unfold Pcs.add; dsimp only
    split
    · exact h.nd
    · rename_i hk
      rw [List.nodup_append]
      exact ⟨h.nd, by simp, fun a ha b hb e => hk (by rw [List.mem_singleton.1 hb] at e; exact e ▸ ha)⟩
  · unfold Pcs.add; dsimp only
    by_cases hk : k = key s
    · rw [if_pos hk]
      subst hk
      constructor
      · intro _; split
        · assumption
        · simp
      · intro _; simp
    · rw [if_neg hk, h.em k]
      split
      · exact Iff.rfl
      · simp [hk]
  · unfold Pcs.add at hx; dsimp only at hx
    by_cases hk : k = key s
    · rw [if_pos hk] at hx
      rcases List.mem_append.1 hx with h1 | h1
      · exact h.ke k x h1
      · rw [List.mem_singleton.1 h1, hk]
    · rw [if_neg hk] at hx; exact h.ke k x hx
  · unfold Pcs.add; dsimp only
    by_cases hk : k = key s
    · rw [if_pos hk, List.nodup_append]
      exact ⟨h.un k, by simp, fun a ha b hb e => hs (by rw [List.mem_singleton.1 hb] at e; rw [← e, ← hk.trans (congrArg key e.symm)]; exact ha)⟩
    · rw [if_neg hk]; exact h.un k
theorem Pcs.add_le (p : Pcs) (s : ByteArray) : p.Le (p.add s) := fun k => by
  unfold Pcs.add; dsimp only
  split
  · exact List.prefix_append _ _
  · exact List.prefix_refl _
theorem Pcs.keep_ok {p : Pcs} (h : p.Ok) (s : ByteArray) : (p.keep s).1.Ok ∧ p.Le (p.keep s).1 ∧ ((p.keep s).1.f (key s))[(p.keep s).2]? = some s := by
  unfold Pcs.keep
  by_cases hs : s ∈ p.f (key s)
  · rw [if_pos hs]
    exact ⟨h, .refl p, by rw [List.getElem?_eq_getElem (List.idxOf_lt_length_iff.2 hs), List.getElem_idxOf]⟩
  · rw [if_neg hs]
    refine ⟨add_ok h hs, add_le p s, ?_⟩
    unfold Pcs.add; dsimp only; rw [if_pos rfl]; simp
/-- All pieces. -/
def Pcs.all (p : Pcs) : List ByteArray := p.L.flatMap p.f
theorem Pcs.mem_all {p : Pcs} (h : p.Ok) (s : ByteArray) : s ∈ p.all ↔ s ∈ p.f (key s) := by
  unfold Pcs.all
  rw [List.mem_flatMap]
  constructor
  · rintro ⟨k, _, hs⟩; rw [h.ke k s hs]; exact hs
  · intro hs; exact ⟨key s, (h.em _).1 (List.ne_nil_of_mem hs), hs⟩
theorem Pcs.all_nodup {p : Pcs} (h : p.Ok) : p.all.Nodup := by
  unfold Pcs.all
  have hL := h.nd
  generalize p.L = L at hL
  induction L with
  | nil => simp
  | cons k r ih =>
    rw [List.flatMap_cons, List.nodup_append]
    obtain ⟨h1, h2⟩ := List.nodup_cons.1 hL
    refine ⟨h.un k, ih h2, fun a ha b hb e => ?_⟩
    subst e
    obtain ⟨k2, hk2, hb2⟩ := List.mem_flatMap.1 hb
    have e1 := h.ke k a ha
    have e2 := h.ke k2 a hb2
    exact h1 (by rw [← e1, e2]; exact hk2)
theorem Pcs.keep_all {p : Pcs} (h : p.Ok) (s x : ByteArray) : x ∈ (p.keep s).1.all ↔ x ∈ p.all ∨ x = s := by
  rw [mem_all (keep_ok h s).1, mem_all h]
  unfold Pcs.keep
  by_cases hs : s ∈ p.f (key s)
  · rw [if_pos hs]
    constructor
    · exact .inl
    · rintro (h1 | h1)
      · exact h1
      · rw [h1]; exact hs
  · rw [if_neg hs]
    unfold Pcs.add; dsimp only
    by_cases hk : key x = key s
    · rw [if_pos hk, List.mem_append, List.mem_singleton]
    · rw [if_neg hk]
      constructor
      · exact .inl
      · rintro (h1 | h1)
        · exact h1
        · exact absurd (congrArg key h1) hk
/-- Pieces stored one behind the other. -/
def Pcs.store (p : Pcs) : List ByteArray → Pcs × List (BitVec 32 × Nat)
  | [] => (p, [])
  | s :: r => (((p.keep s).1.store r).1, (key s, (p.keep s).2) :: ((p.keep s).1.store r).2)
theorem Pcs.store_snoc (p : Pcs) (l : List ByteArray) (s : ByteArray) : p.store (l ++ [s]) = (((p.store l).1.keep s).1, (p.store l).2 ++ [(key s, ((p.store l).1.keep s).2)]) := by
  induction l generalizing p with
  | nil => rfl
  | cons x r ih => simp only [List.cons_append, Pcs.store, ih]
theorem Pcs.store_length (p : Pcs) (l : List ByteArray) : (p.store l).2.length = l.length := by
  induction l generalizing p with
  | nil => rfl
  | cons x r ih => simp [Pcs.store, ih]
/-- What a list of places tells. -/
def Pcs.look (p : Pcs) (ks : List (BitVec 32 × Nat)) (l : List ByteArray) : Prop := ks.length = l.length ∧ ∀ (i : Nat) (k : BitVec 32 × Nat) (s : ByteArray), ks[i]? = some k → l[i]? = some s → (p.f k.1)[k.2]? = some s
theorem Pcs.Le.look {p q : Pcs} (h : p.Le q) {ks : List (BitVec 32 × Nat)} {l : List ByteArray} (hl : p.look ks l) : q.look ks l := ⟨hl.1, fun i k s a b => h.get (hl.2 i k s a b)⟩
theorem Pcs.store_ok {p : Pcs} (h : p.Ok) (l : List ByteArray) : (p.store l).1.Ok ∧ p.Le (p.store l).1 ∧ (p.store l).1.look (p.store l).2 l := by
  induction l generalizing p with
  | nil => exact ⟨h, .refl p, rfl, fun i k s a => by cases a⟩
  | cons x r ih =>
    obtain ⟨k1, k2, k3⟩ := keep_ok h x
    obtain ⟨s1, s2, s3⟩ := ih k1
    refine ⟨s1, k2.trans s2, by simp [Pcs.store, store_length], fun i k s a b => ?_⟩
    cases i with
    | zero =>
      simp only [Pcs.store, List.getElem?_cons_zero, Option.some.injEq] at a b
      subst a b
      exact s2.get k3
    | succ i =>
      simp only [Pcs.store, List.getElem?_cons_succ] at a b
      exact s3.2 i k s a b
theorem Pcs.store_all {p : Pcs} (h : p.Ok) (l : List ByteArray) (x : ByteArray) : x ∈ (p.store l).1.all ↔ x ∈ p.all ∨ x ∈ l := by
  induction l generalizing p with
  | nil => simp [Pcs.store]
  | cons y r ih =>
    simp only [Pcs.store]
    rw [ih (keep_ok h y).1, keep_all h, List.mem_cons, or_assoc]
/-! Names. -/
def less (a b : ByteArray) : Bool := Op.bytesLess a.data.toList b.data.toList
structure Ent where
  ks : List (BitVec 32 × Nat)
  size : Nat
structure St where
  p : Pcs
  nm : List (ByteArray × Ent)
def St.none : St := ⟨Pcs.none, []⟩
def St.order (S : St) : List ByteArray := S.nm.map (·.1)
/-- How many names stand before a name. -/
def St.pos (S : St) (n : ByteArray) : Nat := (S.order.takeWhile (less · n)).length
def St.find (S : St) (n : ByteArray) : Option Ent := (S.nm.find? (·.1 == n)).map (·.2)
def St.put (S : St) (n s : ByteArray) : St := ⟨(S.p.store (parts s)).1, S.nm.take (S.pos n) ++ (n, ⟨(S.p.store (parts s)).2, s.size⟩) :: S.nm.drop (S.pos n)⟩
def St.drop (S : St) (n : ByteArray) : St := ⟨S.p, S.nm.eraseIdx (S.pos n)⟩
end Arc
end Go.Proofs.YtpfkmjckjomeeaaDoor
