/- What facts tell: more facts never turn what is known; reasons. No program is in sight here. -/
import Derived.Test.YtonmpealebggoaaDoorPrpPlain
namespace Go.Proofs.YtonmpealebggoaaDoor
namespace Pr
/-- All that l tells, m tells too. -/
def Tells (l m : List Ft) : Prop := ∀ nm v, factV l nm = some v → factV m nm = some v
theorem sum_more {l m : List Ft} (h : Tells l m) : ∀ (ts : List Tm) (a x : Int), sumV l ts a = some x → sumV m ts a = some x
  | [], a, x, e => e
  | t :: r, a, x, e => by
    simp only [sumV] at e ⊢
    cases hv : factV l t.2 with
    | none => rw [hv] at e; cases e
    | some v => rw [hv] at e; rw [h _ _ hv]; exact sum_more h r _ x e
theorem truth_cases (f : Nat) (l : List Ft) (c : Cd) : truthF f l c = 0 ∨ truthF f l c = 1 ∨ truthF f l c = 2 := by
  induction f generalizing c with
  | zero => exact .inl rfl
  | succ f ih =>
    have h0 := ih (kid c 0)
    have h1 := ih (kid c 1)
    simp only [truthF]
    generalize truthF f l (kid c 0) = a at *
    generalize truthF f l (kid c 1) = b at *
    split
    · split
      · simp
      · split <;> simp
    split
    · generalize hs : (if c.kind = 3 then (1 : Int) else 0) = s
      have hs2 : s = 0 ∨ s = 1 := by rw [← hs]; split <;> simp
      clear hs
      split
      · omega
      · split
        · simp
        · exact h0
    · split
      · simp
      · split <;> simp
/-- More facts never turn what was true or false. -/
theorem truth_more {l m : List Ft} (h : Tells l m) (f : Nat) (c : Cd) : truthF f l c = 2 ∨ truthF f m c = truthF f l c := by
  induction f generalizing c with
  | zero => exact .inr rfl
  | succ f ih =>
    have h0 := ih (kid c 0)
    have h1 := ih (kid c 1)
    have t0 := truth_cases f l (kid c 0)
    have t1 := truth_cases f l (kid c 1)
    simp only [truthF]
    generalize truthF f l (kid c 0) = a at *
    generalize truthF f l (kid c 1) = b at *
    generalize truthF f m (kid c 0) = a' at *
    generalize truthF f m (kid c 1) = b' at *
    by_cases k1 : c.kind = 1
    · rw [if_pos k1, if_pos k1]
      rcases h0 with h0 | h0
      · subst h0; left; rfl
      · subst h0; right; rfl
    rw [if_neg k1, if_neg k1]
    by_cases k2 : c.kind = 2 ∨ c.kind = 3
    · rw [if_pos k2, if_pos k2]
      generalize hs : (if c.kind = 3 then (1 : Int) else 0) = s
      have hs2 : s = 0 ∨ s = 1 := by rw [← hs]; split <;> simp
      clear hs k1 k2
      by_cases ha : a = s ∨ b = s
      · right
        have : a' = s ∨ b' = s := by
          rcases ha with ha | ha
          · rcases h0 with h0 | h0
            · omega
            · exact .inl (h0.trans ha)
          · rcases h1 with h1 | h1
            · omega
            · exact .inr (h1.trans ha)
        rw [if_pos ha, if_pos this]
      · rw [if_neg ha]
        by_cases hb : a = 2 ∨ b = 2
        · rw [if_pos hb]; left; rfl
        · rw [if_neg hb]
          right
          have e1 : a' = a := by omega
          have e2 : b' = b := by omega
          rw [e1, e2, if_neg ha, if_neg hb]
    · rw [if_neg k2, if_neg k2]
      cases hv : sumV l c.terms 0 with
      | none => left; rfl
      | some x => rw [sum_more h _ _ _ hv]; right; rfl
/-- De Morgan. -/
theorem truth_morgan (f : Nat) (l : List Ft) (a b : Cd) : truthF (f + 2) l (.mk 1 [] 0 0 [.mk 2 [] 0 0 [a, b]]) = truthF (f + 2) l (.mk 3 [] 0 0 [.mk 1 [] 0 0 [a], .mk 1 [] 0 0 [b]]) := by
  have t0 := truth_cases f l a
  have t1 := truth_cases f l b
  have e : ∀ c d : Cd, kid (.mk 2 [] 0 0 [c, d]) 0 = c ∧ kid (.mk 2 [] 0 0 [c, d]) 1 = d ∧ kid (.mk 3 [] 0 0 [c, d]) 0 = c ∧ kid (.mk 3 [] 0 0 [c, d]) 1 = d := fun _ _ => ⟨rfl, rfl, rfl, rfl⟩
  have e1 : ∀ c : Cd, kid (.mk 1 [] 0 0 [c]) 0 = c := fun _ => rfl
  simp only [truthF, e1, Cd.kind, (e _ _).1, (e _ _).2.1, (e _ _).2.2.1, (e _ _).2.2.2]
  generalize truthF f l a = x at *
  generalize truthF f l b = y at *
  rcases t0 with rfl | rfl | rfl <;> rcases t1 with rfl | rfl | rfl <;> simp
/-! Facts in order. -/
theorem ltB_irr : ∀ s : Src, ltB s s = false
  | [] => rfl
  | a :: r => by simp only [ltB]; rw [if_neg (by simp), if_neg (by simp)]; exact ltB_irr r
theorem ltB_trans : ∀ {a b c : Src}, ltB a b = true → ltB b c = true → ltB a c = true
  | [], [], _, h, _ => by simp [ltB] at h
  | [], _ :: _, [], _, h => by simp [ltB] at h
  | [], _ :: _, _ :: _, _, _ => rfl
  | _ :: _, [], _, h, _ => by simp [ltB] at h
  | _ :: _, _ :: _, [], _, h => by simp [ltB] at h
  | x :: a, y :: b, z :: c, h1, h2 => by
    simp only [ltB] at h1 h2 ⊢
    have lt : ∀ p q : UInt8, p < q ↔ p.toNat < q.toNat := fun _ _ => UInt8.lt_iff_toNat_lt
    simp only [lt] at h1 h2 ⊢
    by_cases g1 : x.toNat < y.toNat
    · by_cases g2 : y.toNat < z.toNat
      · rw [if_pos (by omega)]
      · rw [if_neg g2] at h2
        by_cases g3 : z.toNat < y.toNat
        · rw [if_pos g3] at h2; cases h2
        · rw [if_pos (by omega)]
    · rw [if_neg g1] at h1
      by_cases g3 : y.toNat < x.toNat
      · rw [if_pos g3] at h1; cases h1
      · rw [if_neg g3] at h1
        by_cases g2 : y.toNat < z.toNat
        · rw [if_pos (by omega)]
        · rw [if_neg g2] at h2
          by_cases g4 : z.toNat < y.toNat
          · rw [if_pos g4] at h2; cases h2
          · rw [if_neg g4] at h2
            rw [if_neg (by omega), if_neg (by omega)]
            exact ltB_trans h1 h2
structure FtOk (x : Ft) : Prop where
  nm : plainB x.1 = true
  lo : -2147483648 ≤ x.2
  hi : x.2 ≤ 2147483648
theorem factE_zero {pre : Option Ft} {x : Ft} : factE pre x = 0 ↔ FtOk x ∧ ∀ y, pre = some y → ltB y.1 x.1 = true := by
  unfold factE
  constructor
  · intro h
    by_cases h1 : plainB x.1 = false
    · rw [if_pos h1] at h; simp at h
    · rw [if_neg h1] at h
      by_cases h2 : x.2 < -2147483648 ∨ 2147483648 < x.2
      · rw [if_pos h2] at h; simp at h
      · rw [if_neg h2] at h
        refine ⟨⟨by simpa using h1, by omega, by omega⟩, ?_⟩
        rintro y rfl
        by_cases h3 : ltB y.1 x.1 = true
        · exact h3
        · simp [h3] at h
  · rintro ⟨⟨h1, h2, h3⟩, h4⟩
    rw [if_neg (by rw [h1]; simp), if_neg (by omega)]
    cases pre with
    | none => rfl
    | some y => simp [h4 y rfl]
theorem factsF_zero : ∀ {pre : Option Ft} {l : List Ft}, factsF pre l = 0 ↔ (∀ x ∈ l, FtOk x) ∧ l.Pairwise (fun a b => ltB a.1 b.1 = true) ∧ (∀ y, pre = some y → ∀ x ∈ l, ltB y.1 x.1 = true)
  | pre, [] => by simp [factsF]
  | pre, x :: r => by
    simp only [factsF]
    by_cases e : factE pre x ≠ 0
    · rw [if_pos e]
      constructor
      · intro h; exact absurd h e
      · rintro ⟨h1, h2, h3⟩
        exact factE_zero.2 ⟨h1 x (by simp), fun y hy => h3 y hy x (by simp)⟩
    · rw [if_neg e, factsF_zero]
      have e := factE_zero.1 (by simpa using e : factE pre x = 0)
      constructor
      · rintro ⟨h1, h2, h3⟩
        refine ⟨fun y hy => ?_, List.pairwise_cons.2 ⟨fun y hy => h3 x rfl y hy, h2⟩, fun y hy z hz => ?_⟩
        · rcases List.mem_cons.1 hy with rfl | hy
          · exact e.1
          · exact h1 y hy
        · rcases List.mem_cons.1 hz with rfl | hz
          · exact e.2 y hy
          · exact ltB_trans (e.2 y hy) (h3 x rfl z hz)
      · rintro ⟨h1, h2, h3⟩
        obtain ⟨p1, p2⟩ := List.pairwise_cons.1 h2
        refine ⟨fun y hy => h1 y (by simp [hy]), p2, fun y hy z hz => ?_⟩
        cases hy; exact p1 z hz
/-- Facts without an error. -/
def FtsOk (l : List Ft) : Prop := l.length ≤ 64 ∧ (∀ x ∈ l, FtOk x) ∧ l.Pairwise (fun a b => ltB a.1 b.1 = true)
theorem factsE_zero {l : List Ft} : factsE l = 0 ↔ FtsOk l := by
  unfold factsE FtsOk
  constructor
  · intro h
    by_cases h1 : 64 < l.length
    · rw [if_pos h1] at h; simp at h
    · rw [if_neg h1, factsF_zero] at h
      exact ⟨by omega, h.1, h.2.1⟩
  · rintro ⟨h1, h2, h3⟩
    rw [if_neg (by omega), factsF_zero]
    exact ⟨h2, h3, fun y hy => by cases hy⟩
theorem FtsOk.sub {l m : List Ft} (h : FtsOk l) (hs : m.Sublist l) : FtsOk m := ⟨Nat.le_trans hs.length_le h.1, fun x hx => h.2.1 x (hs.subset hx), h.2.2.sublist hs⟩
theorem ltB_ne {a b : Src} (h : ltB a b = true) : a ≠ b := by rintro rfl; rw [ltB_irr] at h; cases h
/-- The fact of a name among facts in order. -/
theorem factV_mem {l : List Ft} (h : l.Pairwise (fun a b => ltB a.1 b.1 = true)) {nm : Src} {v : Int} : factV l nm = some v ↔ (nm, v) ∈ l := by
  unfold factV
  induction l with
  | nil => simp
  | cons x r ih =>
    obtain ⟨p1, p2⟩ := List.pairwise_cons.1 h
    rw [List.find?_cons]
    by_cases e : x.1 = nm
    · rw [show (x.1 == nm) = true by simpa using e]
      simp only [Option.map_some, Option.some.injEq, List.mem_cons]
      constructor
      · rintro rfl; left; rw [← e]
      · rintro (h1 | h1)
        · rw [← h1]
        · have := ltB_ne (p1 _ h1); exact absurd e this
    · rw [show (x.1 == nm) = false by simpa using e, ih p2]
      simp only [List.mem_cons]
      constructor
      · intro h1; right; exact h1
      · rintro (h1 | h1)
        · rw [← h1] at e; exact absurd rfl e
        · exact h1
theorem tells_sub {l m : List Ft} (h : FtsOk m) (hs : ∀ x ∈ l, x ∈ m) (hl : l.Pairwise (fun a b => ltB a.1 b.1 = true)) : Tells l m := fun _ _ e => (factV_mem h.2.2).2 (hs _ ((factV_mem hl).1 e))
/-! Reasons. -/
/-- The facts that are kept: those of todo are still to be looked at. -/
def becF (n : Nat) (c : Cd) : List Ft → List Ft → List Ft
  | done, [] => done
  | done, x :: r => if truthF n (done ++ r) c = 0 then becF n c done r else becF n c (done ++ [x]) r
theorem bec_sub (n : Nat) (c : Cd) : ∀ done todo : List Ft, (becF n c done todo).Sublist (done ++ todo)
  | done, [] => by simp [becF]
  | done, x :: r => by
    simp only [becF]
    split
    · exact (bec_sub n c done r).trans ((List.Sublist.refl done).append (List.sublist_cons_self x r))
    · have := bec_sub n c (done ++ [x]) r
      rwa [List.append_assoc] at this
theorem bec_done (n : Nat) (c : Cd) : ∀ done todo : List Ft, ∃ t, becF n c done todo = done ++ t ∧ t.Sublist todo
  | done, [] => ⟨[], by simp [becF], List.Sublist.refl _⟩
  | done, x :: r => by
    simp only [becF]
    split
    · obtain ⟨t, h1, h2⟩ := bec_done n c done r
      exact ⟨t, h1, h2.cons x⟩
    · obtain ⟨t, h1, h2⟩ := bec_done n c (done ++ [x]) r
      exact ⟨x :: t, by rw [h1, List.append_assoc]; rfl, h2.cons_cons x⟩
theorem bec_false (n : Nat) (c : Cd) : ∀ done todo : List Ft, truthF n (done ++ todo) c = 0 → truthF n (becF n c done todo) c = 0
  | done, [], h => by simpa [becF] using h
  | done, x :: r, h => by
    simp only [becF]
    split
    · rename_i h1; exact bec_false n c done r h1
    · exact bec_false n c (done ++ [x]) r (by rw [List.append_assoc]; exact h)
/-- No kept fact can be left out. -/
theorem bec_min (n : Nat) (c : Cd) : ∀ (done todo : List Ft), FtsOk (done ++ todo) → (∀ x ∈ done, ∀ m : List Ft, m.Sublist (done ++ todo) → x ∉ m → truthF n m c ≠ 0) → ∀ x ∈ becF n c done todo, ∀ m : List Ft, m.Sublist (becF n c done todo) → x ∉ m → truthF n m c ≠ 0
  | done, [], _, h, x, hx, m, hm, hn => h x (by simpa [becF] using hx) m (by simpa [becF] using hm) hn
  | done, y :: r, hok, h, x, hx, m, hm, hn => by
    simp only [becF] at hx hm
    by_cases e : truthF n (done ++ r) c = 0
    · rw [if_pos e] at hx hm
      have hs : (done ++ r).Sublist (done ++ y :: r) := (List.Sublist.refl done).append (List.sublist_cons_self y r)
      exact bec_min n c done r (hok.sub hs) (fun z hz q hq hzq => h z hz q (hq.trans hs) hzq) x hx m hm hn
    · rw [if_neg e] at hx hm
      have hok2 : FtsOk (done ++ [y] ++ r) := by rw [List.append_assoc]; exact hok
      refine bec_min n c (done ++ [y]) r hok2 (fun z hz q hq hzq => ?_) x hx m hm hn
      rw [List.append_assoc] at hq
      rcases List.mem_append.1 hz with hz | hz
      · exact h z hz q hq hzq
      · obtain rfl : z = y := by simpa using hz
        intro hq0
        have hsub : ∀ a ∈ q, a ∈ done ++ r := fun a ha => by
          have h1 := hq.subset ha
          rcases List.mem_append.1 h1 with h1 | h1
          · exact List.mem_append_left _ h1
          · rcases List.mem_cons.1 h1 with rfl | h1
            · exact absurd ha hzq
            · exact List.mem_append_right _ h1
        have hokr : FtsOk (done ++ r) := hok.sub ((List.Sublist.refl done).append (List.sublist_cons_self z r))
        rcases truth_more (tells_sub hokr hsub (hok.2.2.sublist hq)) n c with h2 | h2
        · rw [hq0] at h2; cases h2
        · exact e (h2.trans hq0)
end Pr
end Go.Proofs.YtonmpealebggoaaDoor
