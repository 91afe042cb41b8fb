/- The connections at the spine nest: plain Lean. No program is in sight here. -/
import Derived.Test.YtjcijogdcafloaaDoorFoldLaw
namespace Go.Proofs.YtjcijogdcafloaaDoor
abbrev Ky := Nat × Nat
/-- Words that are cancelled: two equal neighbours, and what bd takes for a border. -/
inductive Red (bd : Ky → Bool) : List Ky → List Ky → Prop
  | refl (w : List Ky) : Red bd w w
  | pair (a b : List Ky) (x : Ky) {u : List Ky} : Red bd (a ++ b) u → Red bd (a ++ x :: x :: b) u
  | drop (a b : List Ky) (x : Ky) (h : bd x = true) {u : List Ky} : Red bd (a ++ b) u → Red bd (a ++ x :: b) u
section
variable {bd : Ky → Bool}
theorem Red.ctx {w u : List Ky} (h : Red bd w u) (p q : List Ky) : Red bd (p ++ w ++ q) (p ++ u ++ q) := by
  induction h with
  | refl w => exact .refl _
  | pair a b x _ ih =>
    have := Red.pair (bd := bd) (p ++ a) (b ++ q) x (by simpa using ih)
    simpa using this
  | drop a b x h _ ih =>
    have := Red.drop (bd := bd) (p ++ a) (b ++ q) x h (by simpa using ih)
    simpa using this
theorem Red.trans {w v u : List Ky} (h : Red bd w v) (k : Red bd v u) : Red bd w u := by
  induction h with
  | refl w => exact k
  | pair a b x _ ih => exact .pair a b x (ih k)
  | drop a b x h _ ih => exact .drop a b x h (ih k)
theorem Red.app {w u v t : List Ky} (h : Red bd w u) (k : Red bd v t) : Red bd (w ++ v) (u ++ t) := by
  have h1 := h.ctx [] v
  have h2 := k.ctx u []
  simp only [List.nil_append, List.append_nil] at h1 h2
  exact h1.trans h2
theorem Red.rev {w u : List Ky} (h : Red bd w u) : Red bd w.reverse u.reverse := by
  induction h with
  | refl w => exact .refl _
  | pair a b x _ ih =>
    have := Red.pair (bd := bd) b.reverse a.reverse x (by simpa using ih)
    simpa using this
  | drop a b x h _ ih =>
    have := Red.drop (bd := bd) b.reverse a.reverse x h (by simpa using ih)
    simpa using this
theorem Red.fold (u : List Ky) : Red bd (u.reverse ++ u) [] := by
  induction u with
  | nil => exact .refl _
  | cons x u ih =>
    have := Red.pair (bd := bd) u.reverse u x ih
    simpa using this
theorem Red.fold2 (u : List Ky) : Red bd (u ++ u.reverse) [] := by
  have := Red.fold (bd := bd) u.reverse; simpa using this
theorem Red.of_nil {u : List Ky} (h : Red bd [] u) : u = [] := by
  generalize hw : ([] : List Ky) = w at h
  cases h with
  | refl => rfl
  | pair a b x _ => simp at hw
  | drop a b x _ _ => simp at hw
theorem Red.even {w u : List Ky} (h : Red bd w u) (k : Ky) (hk : bd k = false) : w.count k % 2 = u.count k % 2 := by
  induction h with
  | refl w => rfl
  | pair a b x _ ih =>
    rw [← ih]; simp only [List.count_append, List.count_cons]
    split <;> omega
  | drop a b x hx _ ih =>
    rw [← ih]; simp only [List.count_append, List.count_cons]
    rw [if_neg (by intro e; have := beq_iff_eq.1 e; subst this; rw [hx] at hk; cases hk)]; omega
end
theorem count_le_pair (a b : List Ky) (x k : Ky) : (a ++ b).count k ≤ (a ++ x :: x :: b).count k := by
  simp only [List.count_append, List.count_cons]; split <;> omega
theorem count_le_drop (a b : List Ky) (x k : Ky) : (a ++ b).count k ≤ (a ++ x :: b).count k := by
  simp only [List.count_append, List.count_cons]; split <;> omega
/-- Where a place of a ++ x :: y :: .. ++ b was before the middle of n was put in. -/
theorem get_out (a b m : List Ky) (i : Nat) (h : i < a.length ∨ a.length + m.length ≤ i) : (a ++ m ++ b)[i]? = (a ++ b)[if i < a.length then i else i - m.length]? := by
  by_cases hi : i < a.length
  · rw [if_pos hi, List.append_assoc, List.getElem?_append_left hi, List.getElem?_append_left hi]
  · rw [if_neg hi, List.getElem?_append_right (by simp; omega), List.getElem?_append_right (by omega)]
    congr 1; simp; omega
theorem get_back (a b m : List Ky) (i : Nat) : (a ++ b)[i]? = (a ++ m ++ b)[if i < a.length then i else i + m.length]? := by
  by_cases hi : i < a.length
  · rw [if_pos hi, List.append_assoc, List.getElem?_append_left hi, List.getElem?_append_left hi]
  · rw [if_neg hi, List.getElem?_append_right (by omega), List.getElem?_append_right (by simp; omega)]
    congr 1; simp; omega
theorem two_count {w : List Ky} {x : Ky} {i j : Nat} (hij : i ≠ j) (hi : w[i]? = some x) (hj : w[j]? = some x) : 2 ≤ w.count x := by
  have key : ∀ i j : Nat, i < j → w[i]? = some x → w[j]? = some x → 2 ≤ w.count x := by
    intro i j h hi hj
    rw [← List.take_append_drop j w, List.count_append]
    have h1 : 1 ≤ (w.take j).count x := by
      rw [Nat.one_le_iff_ne_zero, Nat.ne_zero_iff_zero_lt, List.count_pos_iff]
      exact List.mem_of_getElem? (i := i) (by rw [List.getElem?_take_of_lt h]; exact hi)
    have h2 : 1 ≤ (w.drop j).count x := by
      rw [Nat.one_le_iff_ne_zero, Nat.ne_zero_iff_zero_lt, List.count_pos_iff]
      exact List.mem_of_getElem? (i := 0) (by rw [List.getElem?_drop]; simpa using hj)
    omega
  rcases Nat.lt_or_ge i j with h | h
  · exact key i j h hi hj
  · exact key j i (by omega) hj hi
/-- In a word that is cancelled whole, in which each key stands twice at most, what stands between two equal ones is paired there. -/
theorem Red.nest {bd : Ky → Bool} {w : List Ky} (h : Red bd w []) (h2 : ∀ k, bd k = false → w.count k ≤ 2) {i j k : Nat} {x y : Ky} (hx : bd x = false) (hy : bd y = false) (hi : w[i]? = some x) (hj : w[j]? = some x) (hk : w[k]? = some y) (h1 : i < k) (h3 : k < j) :
    ∃ m, i < m ∧ m < j ∧ m ≠ k ∧ w[m]? = some y := by
  generalize hu : ([] : List Ky) = u at h
  induction h generalizing i j k with
  | refl w => subst hu; simp at hi
  | pair a b z _ ih =>
    replace ih := @ih (fun k hk => Nat.le_trans (count_le_pair a b z k) (h2 k hk))
    have e : a ++ z :: z :: b = a ++ [z, z] ++ b := by simp
    rw [e] at hi hj hk h2 ⊢
    have z0 : (a ++ [z, z] ++ b)[a.length]? = some z := by simp
    have z1 : (a ++ [z, z] ++ b)[a.length + 1]? = some z := by simp
    by_cases hzb : bd z = false
    · have cz := h2 z hzb
      have inside : ∀ i, (a ++ [z, z] ++ b)[i]? = some z → i = a.length ∨ i = a.length + 1 := by
        intro i hi
        rcases Nat.lt_or_ge i a.length with h | h
        · exfalso
          have hm : z ∈ a := List.mem_of_getElem? (i := i) (by rw [List.append_assoc, List.getElem?_append_left h] at hi; exact hi)
          have := List.count_pos_iff.2 hm
          simp only [List.count_append, List.count_cons, List.count_nil, beq_self_eq_true, if_true] at cz; omega
        · rcases Nat.lt_or_ge i (a.length + 2) with h' | h'
          · omega
          · exfalso
            have hm : z ∈ b := List.mem_of_getElem? (i := i - (a.length + 2)) (by rw [List.getElem?_append_right (by simp; omega)] at hi; simpa using hi)
            have := List.count_pos_iff.2 hm
            simp only [List.count_append, List.count_cons, List.count_nil, beq_self_eq_true, if_true] at cz; omega
      by_cases hxz : x = z
      · subst hxz
        have a1 := inside i hi
        have a2 := inside j hj
        omega
      · have oi : i < a.length ∨ a.length + [z, z].length ≤ i := by
          rcases Nat.lt_or_ge i a.length with h | h
          · exact .inl h
          · rcases Nat.lt_or_ge i (a.length + 2) with h' | h'
            · exfalso
              have : i = a.length ∨ i = a.length + 1 := by omega
              rcases this with rfl | rfl
              · rw [z0] at hi; injection hi with hi; exact hxz hi.symm
              · rw [z1] at hi; injection hi with hi; exact hxz hi.symm
            · exact .inr (by simpa using h')
        have oj : j < a.length ∨ a.length + [z, z].length ≤ j := by
          rcases Nat.lt_or_ge j a.length with h | h
          · exact .inl h
          · rcases Nat.lt_or_ge j (a.length + 2) with h' | h'
            · exfalso
              have : j = a.length ∨ j = a.length + 1 := by omega
              rcases this with rfl | rfl
              · rw [z0] at hj; injection hj with hj; exact hxz hj.symm
              · rw [z1] at hj; injection hj with hj; exact hxz hj.symm
            · exact .inr (by simpa using h')
        by_cases hyz : y = z
        · subst hyz
          rcases inside k hk with rfl | rfl
          · refine ⟨a.length + 1, by omega, ?_, by omega, z1⟩
            rcases oj with h | h
            · omega
            · simp at h; omega
          · refine ⟨a.length, ?_, by omega, by omega, z0⟩
            rcases oi with h | h
            · omega
            · simp at h; omega
        · have ok : k < a.length ∨ a.length + [z, z].length ≤ k := by
            rcases Nat.lt_or_ge k a.length with h | h
            · exact .inl h
            · rcases Nat.lt_or_ge k (a.length + 2) with h' | h'
              · exfalso
                have : k = a.length ∨ k = a.length + 1 := by omega
                rcases this with rfl | rfl
                · rw [z0] at hk; injection hk with hk; exact hyz hk.symm
                · rw [z1] at hk; injection hk with hk; exact hyz hk.symm
              · exact .inr (by simpa using h')
          rw [get_out a b _ i oi] at hi
          rw [get_out a b _ j oj] at hj
          rw [get_out a b _ k ok] at hk
          simp only [List.length_cons, List.length_nil] at oi oj ok hi hj hk
          obtain ⟨m, m1, m2, m3, m4⟩ := ih hi hj hk (by split <;> split <;> omega) (by split <;> split <;> omega) hu
          rw [get_back a b [z, z] m] at m4
          simp only [List.length_cons, List.length_nil] at m4
          refine ⟨_, ?_, ?_, ?_, m4⟩
          · split at m1 <;> split <;> omega
          · split at m2 <;> split <;> omega
          · split at m3 <;> split <;> omega
    · have nb : ∀ t, bd t = false → t ≠ z := fun t ht e => hzb (e ▸ ht)
      have out : ∀ i t, bd t = false → (a ++ [z, z] ++ b)[i]? = some t → i < a.length ∨ a.length + [z, z].length ≤ i := by
        intro i t ht hi
        rcases Nat.lt_or_ge i a.length with h | h
        · exact .inl h
        · rcases Nat.lt_or_ge i (a.length + 2) with h' | h'
          · exfalso
            have : i = a.length ∨ i = a.length + 1 := by omega
            rcases this with rfl | rfl
            · rw [z0] at hi; injection hi with hi; exact nb t ht hi.symm
            · rw [z1] at hi; injection hi with hi; exact nb t ht hi.symm
          · exact .inr (by simpa using h')
      have oi := out i x hx hi
      have oj := out j x hx hj
      have ok := out k y hy hk
      rw [get_out a b _ i oi] at hi
      rw [get_out a b _ j oj] at hj
      rw [get_out a b _ k ok] at hk
      simp only [List.length_cons, List.length_nil] at oi oj ok hi hj hk
      obtain ⟨m, m1, m2, m3, m4⟩ := ih hi hj hk (by split <;> split <;> omega) (by split <;> split <;> omega) hu
      rw [get_back a b [z, z] m] at m4
      simp only [List.length_cons, List.length_nil] at m4
      refine ⟨_, ?_, ?_, ?_, m4⟩
      · split at m1 <;> split <;> omega
      · split at m2 <;> split <;> omega
      · split at m3 <;> split <;> omega
  | drop a b z hz _ ih =>
    replace ih := @ih (fun k hk => Nat.le_trans (count_le_drop a b z k) (h2 k hk))
    have e : a ++ z :: b = a ++ [z] ++ b := by simp
    rw [e] at hi hj hk h2 ⊢
    have z0 : (a ++ [z] ++ b)[a.length]? = some z := by simp
    have nb : ∀ t, bd t = false → t ≠ z := fun t ht e => by rw [e, hz] at ht; cases ht
    have out : ∀ i t, bd t = false → (a ++ [z] ++ b)[i]? = some t → i < a.length ∨ a.length + [z].length ≤ i := by
      intro i t ht hi
      rcases Nat.lt_or_ge i a.length with h | h
      · exact .inl h
      · rcases Nat.lt_or_ge i (a.length + 1) with h' | h'
        · exfalso
          obtain rfl : i = a.length := by omega
          rw [z0] at hi; injection hi with hi; exact nb t ht hi.symm
        · exact .inr (by simpa using h')
    have oi := out i x hx hi
    have oj := out j x hx hj
    have ok := out k y hy hk
    rw [get_out a b _ i oi] at hi
    rw [get_out a b _ j oj] at hj
    rw [get_out a b _ k ok] at hk
    simp only [List.length_cons, List.length_nil] at oi oj ok hi hj hk
    obtain ⟨m, m1, m2, m3, m4⟩ := ih hi hj hk (by split <;> split <;> omega) (by split <;> split <;> omega) hu
    rw [get_back a b [z] m] at m4
    simp only [List.length_cons, List.length_nil] at m4
    refine ⟨_, ?_, ?_, ?_, m4⟩
    · split at m1 <;> split <;> omega
    · split at m2 <;> split <;> omega
    · split at m3 <;> split <;> omega
/-! The two directions of a sheet. -/
def pos (sw : Bool) (x : Leaf) : Nat := if sw then x.c else x.r
def lane (sw : Bool) (x : Leaf) : Nat := if sw then x.r else x.c
def fl (sw : Bool) (x : Leaf) : Bool := if sw then x.fx else x.fy
/-- The edge of the sheet's grid that a leaf has at its low or high side as it lies. -/
def edge (sw hi : Bool) (x : Leaf) : Nat := pos sw x + if fl sw x != hi then 1 else 0
def key (sw hi : Bool) (x : Leaf) : Ky := (lane sw x, edge sw hi x)
def word (sw hi : Bool) (l : List Leaf) : List Ky := l.map (key sw hi)
def bord (n : Nat) (k : Ky) : Bool := k.2 == 0 || k.2 == n
theorem key_flip_same (sw hi : Bool) (x : Leaf) : key sw hi (flip1 sw x) = key sw (!hi) x := by
  cases sw <;> cases hi <;> cases hx : x.fx <;> cases hy : x.fy <;> simp [key, edge, lane, pos, fl, flip1, hx, hy]
theorem key_flip_other (sw hi : Bool) (x : Leaf) : key sw hi (flip1 (!sw) x) = key sw hi x := by
  cases sw <;> simp [key, edge, lane, pos, fl, flip1]
theorem word_flip_same (sw hi : Bool) (l : List Leaf) : word sw hi (flipL sw l) = (word sw (!hi) l).reverse := by
  unfold word flipL
  rw [List.map_map, List.map_reverse]
  congr 2; exact funext fun x => key_flip_same sw hi x
theorem word_flip_other (sw hi : Bool) (l : List Leaf) : word sw hi (flipL (!sw) l) = (word sw hi l).reverse := by
  unfold word flipL
  rw [List.map_map, List.map_reverse]
  congr 2; exact funext fun x => key_flip_other sw hi x
def joinK (o : Bool) (a b : List Ky) : List Ky := if o then a ++ b else b ++ a
theorem word_join (sw hi o : Bool) (a b : List Leaf) : word sw hi (joinP o a b) = joinK o (word sw hi a) (word sw hi b) := by
  unfold joinP joinK word; split <;> simp
theorem Red.join {bd : Ky → Bool} {w u v t : List Ky} (o : Bool) (h : Red bd w u) (k : Red bd v t) : Red bd (joinK o w v) (joinK o u t) := by
  unfold joinK; split
  · exact h.app k
  · exact k.app h
theorem Red.join_fold {bd : Ky → Bool} (o : Bool) (u : List Ky) : Red bd (joinK o u.reverse u) [] := by
  unfold joinK; split
  · exact Red.fold u
  · exact Red.fold2 u
def pileD (sw : Bool) (S : Sheet) (j r : Int) : List Leaf := if sw then pileAt S j r else pileAt S r j
/-- At every line of the sheet the two piles beside it go on into each other. -/
def Inv (sw : Bool) (n : Nat) (S : Sheet) : Prop := ∀ j r : Int, ∃ u, Red (bord n) (word sw true (pileD sw S (j - 1) r)) u ∧ Red (bord n) (word sw false (pileD sw S j r)) u
theorem inv_flat_x (C R : Nat) : Inv true C (flatS C R) := by
  intro j r
  simp only [pileD, if_true]
  by_cases hr : 0 ≤ r ∧ r < R
  · have p1 : ∀ i : Int, pileAt (flatS C R) i r = if 0 ≤ i ∧ i < C then [⟨i.toNat, r.toNat, false, false⟩] else [] := fun i => by
      unfold pileAt flatS
      by_cases hi : 0 ≤ i ∧ i < C
      · rw [if_pos hi, if_pos ⟨hi.1, hr.1, hi.2, hr.2⟩]
      · rw [if_neg hi, if_neg (fun h => hi ⟨h.1, h.2.2.1⟩)]
    rw [p1, p1]
    by_cases h0 : 0 ≤ j - 1 ∧ j - 1 < C
    · by_cases h1 : 0 ≤ j ∧ j < C
      · rw [if_pos h0, if_pos h1]
        refine ⟨_, .refl _, ?_⟩
        have : word true false [(⟨j.toNat, r.toNat, false, false⟩ : Leaf)] = word true true [⟨(j - 1).toNat, r.toNat, false, false⟩] := by
          simp [word, key, lane, edge, pos, fl]; omega
        rw [this]; exact .refl _
      · rw [if_pos h0, if_neg h1]
        refine ⟨[], ?_, .refl _⟩
        refine Red.drop [] [] _ ?_ (.refl _)
        simp [bord, key, lane, edge, pos, fl]; omega
    · by_cases h1 : 0 ≤ j ∧ j < C
      · rw [if_neg h0, if_pos h1]
        refine ⟨[], .refl _, ?_⟩
        refine Red.drop [] [] _ ?_ (.refl _)
        simp [bord, key, lane, edge, pos, fl]; omega
      · rw [if_neg h0, if_neg h1]; exact ⟨[], .refl _, .refl _⟩
  · have p1 : ∀ i : Int, pileAt (flatS C R) i r = [] := fun i => by
      unfold pileAt flatS; rw [if_neg (fun h => hr ⟨h.2.1, h.2.2.2⟩)]
    rw [p1, p1]; exact ⟨[], .refl _, .refl _⟩
theorem inv_flat_y (C R : Nat) : Inv false R (flatS C R) := by
  intro j r
  simp only [pileD, Bool.false_eq_true, if_false]
  by_cases hr : 0 ≤ r ∧ r < C
  · have p1 : ∀ i : Int, pileAt (flatS C R) r i = if 0 ≤ i ∧ i < R then [⟨r.toNat, i.toNat, false, false⟩] else [] := fun i => by
      unfold pileAt flatS
      by_cases hi : 0 ≤ i ∧ i < R
      · rw [if_pos hi, if_pos ⟨hr.1, hi.1, hr.2, hi.2⟩]
      · rw [if_neg hi, if_neg (fun h => hi ⟨h.2.1, h.2.2.2⟩)]
    rw [p1, p1]
    by_cases h0 : 0 ≤ j - 1 ∧ j - 1 < R
    · by_cases h1 : 0 ≤ j ∧ j < R
      · rw [if_pos h0, if_pos h1]
        refine ⟨_, .refl _, ?_⟩
        have : word false false [(⟨r.toNat, j.toNat, false, false⟩ : Leaf)] = word false true [⟨r.toNat, (j - 1).toNat, false, false⟩] := by
          simp [word, key, lane, edge, pos, fl]; omega
        rw [this]; exact .refl _
      · rw [if_pos h0, if_neg h1]
        refine ⟨[], ?_, .refl _⟩
        refine Red.drop [] [] _ ?_ (.refl _)
        simp [bord, key, lane, edge, pos, fl]; omega
    · by_cases h1 : 0 ≤ j ∧ j < R
      · rw [if_neg h0, if_pos h1]
        refine ⟨[], .refl _, ?_⟩
        refine Red.drop [] [] _ ?_ (.refl _)
        simp [bord, key, lane, edge, pos, fl]; omega
      · rw [if_neg h0, if_neg h1]; exact ⟨[], .refl _, .refl _⟩
  · have p1 : ∀ i : Int, pileAt (flatS C R) r i = [] := fun i => by
      unfold pileAt flatS; rw [if_neg (fun h => hr ⟨h.1, h.2.2.1⟩)]
    rw [p1, p1]; exact ⟨[], .refl _, .refl _⟩
theorem inv_flat (sw : Bool) (C R : Nat) : Inv sw (if sw then C else R) (flatS C R) := by
  cases sw
  · exact inv_flat_y C R
  · exact inv_flat_x C R
/-- A fold along sw, pile by pile, at all places. -/
theorem pile_same (S : Sheet) (f : Step) (i r : Int) (n s : Nat) (hn : ext S f = n) (hs : sizeOf_ n f.line.toNat = s) :
    pileD (acr f) (foldS S f) i r = if 0 ≤ i ∧ i < s then joinP f.over (flipL (acr f) (pileD (acr f) S (mvd (fst f) s f.line.toNat i.toNat) r)) (pileD (acr f) S (fxd (fst f) s f.line.toNat i.toNat) r) else [] := by
  subst hn; subst hs
  cases ha : acr f
  all_goals
    simp only [pileD, foldS, ha, Bool.false_eq_true, if_false, if_true]
    unfold pileAt
    dsimp only
    by_cases hi : 0 ≤ i ∧ i < (sizeOf_ (ext S f) f.line.toNat : Nat)
    · rw [if_pos hi]
      by_cases hr : 0 ≤ r ∧ (r < (if acr f = true then S.rows else S.cols))
      · simp only [ha, Bool.false_eq_true, if_false, if_true] at hr
        rw [if_pos (by omega)]
        have e : ((r.toNat : Nat) : Int) = r := by omega
        simp only [e]
      · simp only [ha, Bool.false_eq_true, if_false, if_true] at hr
        rw [if_neg (by omega), if_neg (by omega), if_neg (by omega)]
        simp [joinP, flipL]
    · rw [if_neg hi, if_neg (by omega)]
theorem pile_other (S : Sheet) (f : Step) (j i : Int) (n s : Nat) (hn : ext S f = n) (hs : sizeOf_ n f.line.toNat = s) :
    pileD (!acr f) (foldS S f) j i = if 0 ≤ i ∧ i < s then joinP f.over (flipL (acr f) (pileD (!acr f) S j (mvd (fst f) s f.line.toNat i.toNat))) (pileD (!acr f) S j (fxd (fst f) s f.line.toNat i.toNat)) else [] := by
  have h := pile_same S f i j n s hn hs
  have e : ∀ T a b, pileD (!acr f) T a b = pileD (acr f) T b a := fun T a b => by unfold pileD; cases acr f <;> rfl
  simp only [e]; exact h
theorem pileD_out {sw : Bool} {S : Sheet} {j r : Int} (h : j < 0 ∨ (if sw then S.cols else S.rows : Nat) ≤ j) : pileD sw S j r = [] := by
  unfold pileD pileAt
  cases sw
  · simp only [Bool.false_eq_true, if_false] at h ⊢; rw [if_neg (by omega)]
  · simp only [if_true] at h ⊢; rw [if_neg (by omega)]
theorem inv_other {n : Nat} {S : Sheet} {f : Step} (h : Inv (!acr f) n S) : Inv (!acr f) n (foldS S f) := by
  intro j r
  rw [pile_other S f (j - 1) r _ _ rfl rfl, pile_other S f j r _ _ rfl rfl]
  split
  · obtain ⟨u, u1, u2⟩ := h j (mvd (fst f) (sizeOf_ (ext S f) f.line.toNat) f.line.toNat r.toNat)
    obtain ⟨v, v1, v2⟩ := h j (fxd (fst f) (sizeOf_ (ext S f) f.line.toNat) f.line.toNat r.toNat)
    have e : ∀ hi l, word (!acr f) hi (flipL (acr f) l) = (word (!acr f) hi l).reverse := fun hi l => by
      have := word_flip_other (!acr f) hi l; rwa [Bool.not_not] at this
    refine ⟨joinK f.over u.reverse v, ?_, ?_⟩
    · rw [word_join, e]; exact u1.rev.join _ v1
    · rw [word_join, e]; exact u2.rev.join _ v2
  · exact ⟨[], .refl _, .refl _⟩
theorem inv_same {n : Nat} {S : Sheet} {f : Step} (hok : okStep S f) (h : Inv (acr f) n S) : Inv (acr f) n (foldS S f) := by
  intro j r
  obtain ⟨_, _, l1, l2⟩ := hok
  have hext : (if acr f then S.cols else S.rows) = ext S f := rfl
  have hs1 : f.line.toNat ≤ sizeOf_ (ext S f) f.line.toNat := by unfold sizeOf_; omega
  have hs2 : ext S f - f.line.toNat ≤ sizeOf_ (ext S f) f.line.toNat := by unfold sizeOf_; omega
  rw [pile_same S f (j - 1) r _ _ rfl rfl, pile_same S f j r _ _ rfl rfl]
  generalize sizeOf_ (ext S f) f.line.toNat = s at *
  have hk : (f.line.toNat : Int) = f.line := by omega
  generalize hkk : f.line.toNat = k at *
  have hout : ∀ {i : Int}, i < 0 ∨ (ext S f : Int) ≤ i → pileD (acr f) S i r = [] := fun {i} hi => pileD_out (by rw [hext]; exact hi)
  cases hf : fst f
  · -- the high part moves: the fold's line is the new sheet's high border
    simp only [mvd, fxd, Bool.false_eq_true, if_false]
    by_cases hj : 0 ≤ j ∧ j < s
    · -- line j below the top: both piles by the old lines
      obtain ⟨u, u1, u2⟩ := h ((k : Int) + (s - j)) r
      obtain ⟨v, v1, v2⟩ := h ((k : Int) - s + j) r
      rw [if_pos hj]
      refine ⟨joinK f.over u.reverse v, ?_, ?_⟩
      · by_cases hj1 : 0 ≤ j - 1
        · rw [if_pos (by omega), word_join, word_flip_same]
          have e1 : (k : Int) + ((s - 1 - (j - 1).toNat : Nat) : Int) = (k : Int) + (s - j) := by omega
          have e2 : (k : Int) - 1 - ((s - 1 - (j - 1).toNat : Nat) : Int) = (k : Int) - s + j - 1 := by omega
          rw [e1, e2]; exact u2.rev.join _ v1
        · rw [if_neg (by omega)]
          rw [hout (i := (k : Int) + (s - j)) (by omega)] at u2
          rw [hout (i := (k : Int) - s + j - 1) (by omega)] at v1
          rw [u2.of_nil, v1.of_nil]
          have : joinK f.over ([] : List Ky).reverse [] = [] := by unfold joinK; split <;> rfl
          rw [this]; exact .refl _
      · rw [word_join, word_flip_same]
        have e1 : (k : Int) + ((s - 1 - j.toNat : Nat) : Int) = (k : Int) + (s - j) - 1 := by omega
        have e2 : (k : Int) - 1 - ((s - 1 - j.toNat : Nat) : Int) = (k : Int) - s + j := by omega
        rw [e1, e2]; exact u1.rev.join _ v2
    · rw [if_neg hj]
      refine ⟨[], ?_, .refl _⟩
      by_cases hj1 : 0 ≤ j - 1 ∧ j - 1 < s
      · rw [if_pos hj1, word_join, word_flip_same]
        obtain ⟨u, u1, u2⟩ := h (k : Int) r
        have e1 : (k : Int) + ((s - 1 - (j - 1).toNat : Nat) : Int) = (k : Int) := by omega
        have e2 : (k : Int) - 1 - ((s - 1 - (j - 1).toNat : Nat) : Int) = (k : Int) - 1 := by omega
        rw [e1, e2]
        exact (u2.rev.join _ u1).trans (Red.join_fold _ u)
      · rw [if_neg hj1]; exact .refl _
  · -- the low part moves: the fold's line is the new sheet's low border
    simp only [mvd, fxd, if_true]
    by_cases hj : 0 ≤ j - 1 ∧ j - 1 < s
    · obtain ⟨u, u1, u2⟩ := h ((k : Int) - j) r
      obtain ⟨v, v1, v2⟩ := h ((k : Int) + j) r
      rw [if_pos hj]
      refine ⟨joinK f.over u.reverse v, ?_, ?_⟩
      · rw [word_join, word_flip_same]
        have e1 : (k : Int) - 1 - ((j - 1).toNat : Int) = (k : Int) - j := by omega
        have e2 : (k : Int) + ((j - 1).toNat : Int) = (k : Int) + j - 1 := by omega
        rw [e1, e2]; exact u2.rev.join _ v1
      · by_cases hj1 : j < s
        · rw [if_pos (by omega), word_join, word_flip_same]
          have e1 : (k : Int) - 1 - (j.toNat : Int) = (k : Int) - j - 1 := by omega
          have e2 : (k : Int) + (j.toNat : Int) = (k : Int) + j := by omega
          rw [e1, e2]; exact u1.rev.join _ v2
        · rw [if_neg (by omega)]
          rw [hout (i := (k : Int) - j - 1) (by omega)] at u1
          rw [hout (i := (k : Int) + j) (by omega)] at v2
          rw [u1.of_nil, v2.of_nil]
          have : joinK f.over ([] : List Ky).reverse [] = [] := by unfold joinK; split <;> rfl
          rw [this]; exact .refl _
    · rw [if_neg hj]
      refine ⟨[], .refl _, ?_⟩
      by_cases hj1 : 0 ≤ j ∧ j < s
      · rw [if_pos hj1, word_join, word_flip_same]
        obtain ⟨u, u1, u2⟩ := h (k : Int) r
        have e1 : (k : Int) - 1 - (j.toNat : Int) = (k : Int) - 1 := by omega
        have e2 : (k : Int) + (j.toNat : Int) = (k : Int) := by omega
        rw [e1, e2]
        exact (u1.rev.join _ u2).trans (Red.join_fold _ u)
      · rw [if_neg hj1]; exact .refl _
theorem inv_fold {sw : Bool} {n : Nat} {S : Sheet} {f : Step} (hok : okStep S f) (h : Inv sw n S) : Inv sw n (foldS S f) := by
  by_cases e : sw = acr f
  · subst e; exact inv_same hok h
  · obtain rfl : sw = !acr f := by revert e; cases sw <;> cases acr f <;> simp
    exact inv_other h
theorem inv_all {sw : Bool} {n : Nat} {l : List Step} : ∀ {S : Sheet}, okSteps S l → Inv sw n S → Inv sw n (foldAll S l) := by
  induction l with
  | nil => intro S _ h; exact h
  | cons f l ih => intro S hok h; exact ih hok.2 (inv_fold hok.1 h)
end Go.Proofs.YtjcijogdcafloaaDoor
