/- Connections at the spine are mutual, join neighbours and do not cross: plain Lean. No program is in sight here. -/
import Derived.Test.YtjcijogdcafloaaDoorFoldNest
namespace Go.Proofs.YtjcijogdcafloaaDoor
/-- The place that a leaf is connected with. -/
def tgtC (sd : Int) (x : Leaf) : Int := if sd = 0 then (if x.fx then (x.c : Int) + 1 else (x.c : Int) - 1) else if sd = 1 then (if x.fx then (x.c : Int) - 1 else (x.c : Int) + 1) else x.c
def tgtR (sd : Int) (x : Leaf) : Int := if sd = 0 ∨ sd = 1 then x.r else if sd = 2 then (if x.fy then (x.r : Int) + 1 else (x.r : Int) - 1) else (if x.fy then (x.r : Int) - 1 else (x.r : Int) + 1)
def isAt (a b : Int) (y : Leaf) : Bool := (y.c : Int) == a && (y.r : Int) == b
/-- The first place of a list with q, or -1. -/
def idxOf (q : Leaf → Bool) (l : List Leaf) : Int := if l.findIdx q < l.length then (l.findIdx q : Nat) else -1
/-- The first i of a list lack q. -/
theorem idxOf_at {q : Leaf → Bool} {l : List Leaf} {i : Nat} (h : i < l.length) (hi : q l[i] = true) (hb : ∀ j (hj : j < i), q (l[j]'(by omega)) = false) : idxOf q l = i := by
  have e : l.findIdx q = i := by
    rw [List.findIdx_eq h]; exact ⟨hi, fun j hj => hb j hj⟩
  unfold idxOf; rw [e, if_pos h]
theorem idxOf_none {q : Leaf → Bool} {l : List Leaf} (h : ∀ i (hi : i < l.length), q l[i] = false) : idxOf q l = -1 := by
  unfold idxOf
  rw [if_neg]
  intro hlt
  have := List.findIdx_getElem (p := q) (xs := l) (w := hlt)
  rw [h] at this; cases this
theorem idxOf_get {q : Leaf → Bool} {l : List Leaf} (h : 0 ≤ idxOf q l) : ∃ (i : Nat) (hi : i < l.length), idxOf q l = i ∧ q l[i] = true := by
  unfold idxOf at h ⊢
  split at h
  · rename_i hlt
    refine ⟨_, hlt, by rw [if_pos hlt], List.findIdx_getElem (w := hlt)⟩
  · omega
theorem idxOf_range (q : Leaf → Bool) (l : List Leaf) : -1 ≤ idxOf q l ∧ idxOf q l < l.length := by
  unfold idxOf; split <;> omega
/-- The connections of a pile; n0: the sheet was not folded. -/
def pairIx (n0 : Bool) (sd : Int) (l : List Leaf) (x : Leaf) : Int := if n0 then idxOf (isAt (-1) x.r) l else idxOf (isAt (tgtC sd x) (tgtR sd x)) l
def pairsL (n0 : Bool) (sd : Int) (l : List Leaf) : List Int := l.map (pairIx n0 sd l)
/-- What the law asks of one connection. -/
structure PairOk (l : List Leaf) (P : List Int) (i j : Nat) : Prop where
  lt : j < l.length
  back : P.getD j 0 = (i : Int)
  ne : i ≠ j
  near : (((l.getD i ⟨0, 0, false, false⟩).c : Int) - (l.getD j ⟨0, 0, false, false⟩).c) * (((l.getD i ⟨0, 0, false, false⟩).c : Int) - (l.getD j ⟨0, 0, false, false⟩).c) + (((l.getD i ⟨0, 0, false, false⟩).r : Int) - (l.getD j ⟨0, 0, false, false⟩).r) * (((l.getD i ⟨0, 0, false, false⟩).r : Int) - (l.getD j ⟨0, 0, false, false⟩).r) = 1
  nest : ∀ k, (i < k ∧ k < j) ∨ (j < k ∧ k < i) → P.getD k 0 < 0 ∨ ((min i j : Nat) : Int) ≤ P.getD k 0 ∧ P.getD k 0 ≤ ((max i j : Nat) : Int)
def sdSw (sd : Int) : Bool := sd == 0 || sd == 1
def sdHi (sd : Int) : Bool := sd == 1 || sd == 3
theorem red_end {C R : Nat} {l : List Step} (h : okSteps (flatS C R) l) (hc : (foldAll (flatS C R) l).cols = 1) (hr : (foldAll (flatS C R) l).rows = 1) (sw hi : Bool) :
    Red (bord (if sw then C else R)) (word sw hi (endPile C R l)) [] := by
  have hinv := inv_all (sw := sw) h (inv_flat sw C R)
  have e0 : pileD sw (foldAll (flatS C R) l) 0 0 = endPile C R l := by
    unfold pileD pileAt endPile; rw [hc, hr]; cases sw <;> rfl
  have out : ∀ j : Int, j < 0 ∨ 1 ≤ j → pileD sw (foldAll (flatS C R) l) j 0 = [] := fun j hj => pileD_out (by rw [hc, hr]; cases sw <;> exact hj)
  cases hi
  · obtain ⟨u, u1, u2⟩ := hinv 0 0
    rw [out _ (by omega)] at u1
    rw [e0] at u2
    rw [u1.of_nil] at u2; exact u2
  · obtain ⟨u, u1, u2⟩ := hinv 1 0
    rw [out _ (by omega)] at u2
    have e1 : (1 : Int) - 1 = 0 := by omega
    rw [e1, e0] at u1
    rw [u2.of_nil] at u1; exact u1
section
variable {C R : Nat} {l : List Leaf} (hin : ∀ x ∈ l, x.c < C ∧ x.r < R) (hone : ∀ a b, a < C → b < R → l.countP (atPlace a b) = 1)
include hone in
theorem place_uniq {i j : Nat} (hi : i < l.length) (hj : j < l.length) (hx : l[i].c < C ∧ l[i].r < R) (hc : l[i].c = l[j].c) (hr : l[i].r = l[j].r) : i = j := by
  have h1 := hone _ _ hx.1 hx.2
  have key : ∀ i j : Nat, ∀ (hi : i < l.length) (hj : j < l.length), i < j → l[i].c = l[j].c → l[i].r = l[j].r → 2 ≤ l.countP (atPlace l[i].c l[i].r) := by
    intro i j hi hj hlt hc hr
    have hsplit : l.countP (atPlace l[i].c l[i].r) = (l.take j).countP (atPlace l[i].c l[i].r) + (l.drop j).countP (atPlace l[i].c l[i].r) := by
      rw [← List.countP_append, List.take_append_drop]
    have a1 : 0 < (l.take j).countP (atPlace l[i].c l[i].r) := List.countP_pos_iff.2 ⟨l[i], List.mem_of_getElem? (i := i) (by rw [List.getElem?_take_of_lt hlt, List.getElem?_eq_getElem hi]), by simp [atPlace]⟩
    have a2 : 0 < (l.drop j).countP (atPlace l[i].c l[i].r) := List.countP_pos_iff.2 ⟨l[j], List.mem_of_getElem? (i := 0) (by rw [List.getElem?_drop]; simp [hj]), by simp [atPlace, hc, hr]⟩
    omega
  rcases Nat.lt_trichotomy i j with h | h | h
  · have := key i j hi hj h hc hr; omega
  · exact h
  · have := key j i hj hi h hc.symm hr.symm; rw [← hc, ← hr] at this; omega
theorem key_lane {sw hi : Bool} {x y : Leaf} (h : key sw hi x = key sw hi y) : lane sw x = lane sw y ∧ edge sw hi x = edge sw hi y := by
  unfold key at h; injection h with a b; exact ⟨a, b⟩
theorem edge_pos (sw hi : Bool) (x : Leaf) : edge sw hi x = pos sw x ∨ edge sw hi x = pos sw x + 1 := by
  unfold edge; split <;> omega
include hin in
theorem pos_lt {sw : Bool} {x : Leaf} (h : x ∈ l) : pos sw x < (if sw then C else R) ∧ lane sw x < (if sw then R else C) := by
  obtain ⟨a, b⟩ := hin x h; cases sw <;> exact ⟨by first | exact a | exact b, by first | exact b | exact a⟩
theorem same_place {sw : Bool} {x y : Leaf} (h1 : pos sw x = pos sw y) (h2 : lane sw x = lane sw y) : x.c = y.c ∧ x.r = y.r := by
  cases sw
  · exact ⟨h2, h1⟩
  · exact ⟨h1, h2⟩
include hin hone in
/-- A key that is no border stands at most twice. -/
theorem key_two (sw hi : Bool) (k : Ky) : (word sw hi l).count k ≤ 2 := by
  -- leaves with this key lie at one of two places
  have hsum : (word sw hi l).count k ≤ l.countP (fun x => lane sw x == k.1 && pos sw x == k.2) + l.countP (fun x => lane sw x == k.1 && pos sw x + 1 == k.2) := by
    have : ∀ m : List Leaf, (word sw hi m).count k ≤ m.countP (fun x => lane sw x == k.1 && pos sw x == k.2) + m.countP (fun x => lane sw x == k.1 && pos sw x + 1 == k.2) := by
      intro m
      induction m with
      | nil => simp [word]
      | cons x m ih =>
        simp only [word, List.map_cons, List.count_cons, List.countP_cons] at ih ⊢
        by_cases hk : key sw hi x = k
        · have hp := edge_pos sw hi x
          have h1 : lane sw x = k.1 := by rw [← hk]; rfl
          have h2 : edge sw hi x = k.2 := by rw [← hk]; rfl
          rw [hk]
          rcases hp with hp | hp
          · have q : (lane sw x == k.1 && pos sw x == k.2) = true := by simp; omega
            rw [q]; simp; omega
          · have q : (lane sw x == k.1 && pos sw x + 1 == k.2) = true := by simp; omega
            rw [q]; simp; omega
        · have : (key sw hi x == k) = false := by simpa using hk
          rw [this]; simp; omega
    exact this l
  have one : ∀ a b, l.countP (fun x => lane sw x == a && pos sw x == b) ≤ 1 := by
    intro a b
    by_cases hz : 0 < l.countP (fun x => lane sw x == a && pos sw x == b)
    · obtain ⟨x, hx, hq⟩ := List.countP_pos_iff.1 hz
      simp only [Bool.and_eq_true, beq_iff_eq] at hq
      obtain ⟨h1, h2⟩ := hin x hx
      have := hone _ _ h1 h2
      have e : (fun y : Leaf => lane sw y == a && pos sw y == b) = atPlace x.c x.r := by
        funext y
        obtain ⟨rfl, rfl⟩ := hq
        cases sw
        · simp only [lane, pos, atPlace, Bool.false_eq_true, if_false]
        · simp only [lane, pos, atPlace, if_true]; rw [Bool.and_comm]
      rw [e, this]; exact Nat.le_refl _
    · omega
  have h1 := one k.1 k.2
  have h2 : l.countP (fun x => lane sw x == k.1 && pos sw x + 1 == k.2) ≤ 1 := by
    rcases Nat.eq_zero_or_pos k.2 with h0 | h0
    · have : l.countP (fun x => lane sw x == k.1 && pos sw x + 1 == k.2) = 0 := by
        rw [List.countP_eq_zero]; intro x _; rw [h0]; simp
      omega
    · have := one k.1 (k.2 - 1)
      have e : (fun x : Leaf => lane sw x == k.1 && pos sw x + 1 == k.2) = fun x => lane sw x == k.1 && pos sw x == k.2 - 1 := by
        funext x; congr 1; rw [Bool.eq_iff_iff, beq_iff_eq, beq_iff_eq]; omega
      rw [e]; exact this
  omega
end
/-- The place beyond the edge. -/
theorem tgt_edge {sd : Int} (h : 0 ≤ sd) (h3 : sd ≤ 3) (x y : Leaf) : isAt (tgtC sd x) (tgtR sd x) y = true ↔
    lane (sdSw sd) y = lane (sdSw sd) x ∧ (pos (sdSw sd) y + 1 = edge (sdSw sd) (sdHi sd) x ∧ pos (sdSw sd) x = edge (sdSw sd) (sdHi sd) x ∨ pos (sdSw sd) y = edge (sdSw sd) (sdHi sd) x ∧ pos (sdSw sd) x + 1 = edge (sdSw sd) (sdHi sd) x) := by
  have h4 : sd = 0 ∨ sd = 1 ∨ sd = 2 ∨ sd = 3 := by omega
  rcases h4 with rfl | rfl | rfl | rfl
  all_goals
    obtain ⟨xc, xr, xf, xg⟩ := x
    obtain ⟨yc, yr, yf, yg⟩ := y
    cases xf <;> cases xg <;> simp [isAt, tgtC, tgtR, sdSw, sdHi, lane, pos, edge, fl] <;> omega
section
variable {C R : Nat} {l : List Leaf} (hin : ∀ x ∈ l, x.c < C ∧ x.r < R) (hone : ∀ a b, a < C → b < R → l.countP (atPlace a b) = 1) {sd : Int} (h0 : 0 ≤ sd) (h3 : sd ≤ 3)
  (hred : Red (bord (if sdSw sd then C else R)) (word (sdSw sd) (sdHi sd) l) [])
theorem word_get {sw hi : Bool} {l : List Leaf} {i : Nat} (h : i < l.length) : (word sw hi l)[i]? = some (key sw hi l[i]) := by
  unfold word; rw [List.getElem?_map, List.getElem?_eq_getElem h]; rfl
include hin hone h0 h3 hred in
/-- Two different leaves with one key are connected. -/
theorem tgt_of_key {i j : Nat} (hi : i < l.length) (hj : j < l.length) (hne : i ≠ j) (hk : key (sdSw sd) (sdHi sd) l[i] = key (sdSw sd) (sdHi sd) l[j]) : isAt (tgtC sd l[i]) (tgtR sd l[i]) l[j] = true := by
  have _ := hred
  rw [tgt_edge h0 h3]
  obtain ⟨k1, k2⟩ := key_lane hk
  refine ⟨k1.symm, ?_⟩
  have np : pos (sdSw sd) l[i] ≠ pos (sdSw sd) l[j] := fun e => hne (by
    obtain ⟨a, b⟩ := same_place e k1
    exact place_uniq hone hi hj (hin _ (List.getElem_mem hi)) a b)
  have a1 := edge_pos (sdSw sd) (sdHi sd) l[i]
  have a2 := edge_pos (sdSw sd) (sdHi sd) l[j]
  omega
include hin hone h0 h3 hred in
/-- What stands at the place beyond the edge has the same key, and the edge is no border. -/
theorem key_of_tgt {i j : Nat} (hi : i < l.length) (hj : j < l.length) (ht : isAt (tgtC sd l[i]) (tgtR sd l[i]) l[j] = true) :
    key (sdSw sd) (sdHi sd) l[i] = key (sdSw sd) (sdHi sd) l[j] ∧ bord (if sdSw sd then C else R) (key (sdSw sd) (sdHi sd) l[i]) = false ∧ i ≠ j := by
  rw [tgt_edge h0 h3] at ht
  obtain ⟨t1, t2⟩ := ht
  have p1 := pos_lt hin (sw := sdSw sd) (List.getElem_mem hi)
  have p2 := pos_lt hin (sw := sdSw sd) (List.getElem_mem hj)
  have hb : bord (if sdSw sd then C else R) (key (sdSw sd) (sdHi sd) l[i]) = false := by
    unfold bord key
    simp only [Bool.or_eq_false_iff, beq_eq_false_iff_ne]
    generalize (if sdSw sd then C else R) = n at *
    omega
  have hne : i ≠ j := fun e => by subst e; omega
  refine ⟨?_, hb, hne⟩
  -- the key stands an even number of times, and so a second time
  have hev := hred.even _ hb
  rw [List.count_nil] at hev
  have hpos : 0 < (word (sdSw sd) (sdHi sd) l).count (key (sdSw sd) (sdHi sd) l[i]) := List.count_pos_iff.2 (List.mem_of_getElem? (word_get hi))
  have h2 : ∃ m, ∃ hm : m < l.length, m ≠ i ∧ key (sdSw sd) (sdHi sd) l[m] = key (sdSw sd) (sdHi sd) l[i] := by
    refine Classical.byContradiction fun hno => ?_
    have hall : ∀ m (hm : m < l.length), m ≠ i → key (sdSw sd) (sdHi sd) l[m] ≠ key (sdSw sd) (sdHi sd) l[i] := fun m hm hmi e => hno ⟨m, hm, hmi, e⟩
    have hz1 : (word (sdSw sd) (sdHi sd) (l.take i)).count (key (sdSw sd) (sdHi sd) l[i]) = 0 := by
      rw [List.count_eq_zero]
      intro hmem
      obtain ⟨x, hx, e⟩ := List.mem_map.1 hmem
      obtain ⟨m, hm, rfl⟩ := List.getElem_of_mem hx
      rw [List.length_take] at hm
      rw [List.getElem_take] at e
      exact hall m (by omega) (by omega) e
    have hz2 : (word (sdSw sd) (sdHi sd) (l.drop (i + 1))).count (key (sdSw sd) (sdHi sd) l[i]) = 0 := by
      rw [List.count_eq_zero]
      intro hmem
      obtain ⟨x, hx, e⟩ := List.mem_map.1 hmem
      obtain ⟨m, hm, rfl⟩ := List.getElem_of_mem hx
      rw [List.length_drop] at hm
      rw [List.getElem_drop] at e
      exact hall (i + 1 + m) (by omega) (by omega) e
    have hsplit : word (sdSw sd) (sdHi sd) l = word (sdSw sd) (sdHi sd) (l.take i) ++ key (sdSw sd) (sdHi sd) l[i] :: word (sdSw sd) (sdHi sd) (l.drop (i + 1)) := by
      unfold word
      rw [← List.map_cons, ← List.map_append]
      congr 1
      rw [List.getElem_cons_drop, List.take_append_drop]
    rw [hsplit, List.count_append, List.count_cons, hz1, hz2] at hev
    simp at hev
  obtain ⟨m, hm, hmi, hmk⟩ := h2
  have e : j = m := by
    have tm := tgt_of_key hin hone h0 h3 hred hi hm (Ne.symm hmi) hmk.symm
    rw [tgt_edge h0 h3] at tm
    have ep : pos (sdSw sd) l[j] = pos (sdSw sd) l[m] := by omega
    obtain ⟨a, b⟩ := same_place ep (t1.trans tm.1.symm)
    exact place_uniq hone hj hm (hin _ (List.getElem_mem hj)) a b
  subst e
  exact hmk.symm
theorem pairsL_get {n0 : Bool} {sd : Int} {l : List Leaf} {i : Nat} (h : i < l.length) : (pairsL n0 sd l).getD i 0 = pairIx n0 sd l l[i] := by
  unfold pairsL; rw [List.getD_eq_getElem?_getD, List.getElem?_map, List.getElem?_eq_getElem h]; rfl
include hin hone in
theorem idxOf_place {i : Nat} {a b : Int} (hi : i < l.length) (h : isAt a b l[i] = true) : idxOf (isAt a b) l = i := by
  refine idxOf_at hi h fun j hj => ?_
  cases hq : isAt a b (l[j]'(by omega)) with
  | false => rfl
  | true =>
    exfalso
    simp only [isAt, Bool.and_eq_true, beq_iff_eq] at h hq
    have := place_uniq hone (i := i) (j := j) hi (by omega) (hin _ (List.getElem_mem hi)) (by omega) (by omega)
    omega
include hin hone h0 h3 hred in
theorem pairs_law {n0 : Bool} {i : Nat} (hi : i < l.length) (hp : 0 ≤ (pairsL n0 sd l).getD i 0) : ∃ j : Nat, (pairsL n0 sd l).getD i 0 = j ∧ PairOk l (pairsL n0 sd l) i j := by
  rw [pairsL_get hi] at hp ⊢
  cases n0 with
  | true =>
    exfalso
    unfold pairIx at hp
    rw [if_pos rfl] at hp
    obtain ⟨j, hj, _, h2⟩ := idxOf_get hp
    simp only [isAt, Bool.and_eq_true, beq_iff_eq] at h2
    omega
  | false =>
    have e1 : ∀ x, pairIx false sd l x = idxOf (isAt (tgtC sd x) (tgtR sd x)) l := fun x => rfl
    rw [e1] at hp
    obtain ⟨j, hj, ej, hat⟩ := idxOf_get hp
    obtain ⟨hk, hb, hne⟩ := key_of_tgt hin hone h0 h3 hred hi hj hat
    have hat2 := tgt_of_key hin hone h0 h3 hred hj hi (Ne.symm hne) hk.symm
    refine ⟨j, by rw [e1]; exact ej, hj, ?_, hne, ?_, fun k hkk => ?_⟩
    · rw [pairsL_get hj, e1]; exact idxOf_place hin hone hi hat2
    · have g1 : l.getD i ⟨0, 0, false, false⟩ = l[i] := by rw [List.getD_eq_getElem?_getD, List.getElem?_eq_getElem hi]; rfl
      have g2 : l.getD j ⟨0, 0, false, false⟩ = l[j] := by rw [List.getD_eq_getElem?_getD, List.getElem?_eq_getElem hj]; rfl
      rw [g1, g2]
      rw [tgt_edge h0 h3] at hat
      generalize l[i] = x at *
      generalize l[j] = y at *
      obtain ⟨t1, t2⟩ := hat
      generalize edge (sdSw sd) (sdHi sd) x = e at *
      have hd : ∀ a b : Nat, (a = b ∨ False) → True := fun _ _ _ => trivial
      cases hs : sdSw sd
      · simp only [hs, lane, pos, Bool.false_eq_true, if_false] at t1 t2
        have z1 : (x.c : Int) - y.c = 0 := by omega
        rw [z1]
        rcases t2 with t2 | t2
        · have z2 : (x.r : Int) - y.r = 1 := by omega
          rw [z2]; rfl
        · have z2 : (x.r : Int) - y.r = -1 := by omega
          rw [z2]; rfl
      · simp only [hs, lane, pos, if_true] at t1 t2
        have z1 : (x.r : Int) - y.r = 0 := by omega
        rw [z1]
        rcases t2 with t2 | t2
        · have z2 : (x.c : Int) - y.c = 1 := by omega
          rw [z2]; rfl
        · have z2 : (x.c : Int) - y.c = -1 := by omega
          rw [z2]; rfl
    · have hkl : k < l.length := by omega
      rw [pairsL_get hkl, e1]
      rcases (show idxOf (isAt (tgtC sd l[k]) (tgtR sd l[k])) l < 0 ∨ 0 ≤ idxOf (isAt (tgtC sd l[k]) (tgtR sd l[k])) l by omega) with hn | hn
      · exact .inl hn
      · refine .inr ?_
        obtain ⟨m', hm', em, hatm⟩ := idxOf_get hn
        obtain ⟨hkm, hbm, hnem⟩ := key_of_tgt hin hone h0 h3 hred hkl hm' hatm
        have two := key_two hin hone (sdSw sd) (sdHi sd)
        have fin : ∀ a b : Nat, ∀ (ha : a < l.length) (hb' : b < l.length), key (sdSw sd) (sdHi sd) l[a] = key (sdSw sd) (sdHi sd) l[b] → bord (if sdSw sd then C else R) (key (sdSw sd) (sdHi sd) l[a]) = false → a < k → k < b → a < m' ∧ m' < b := by
          intro a b ha hb' hab hba h1 h2
          obtain ⟨m, m1, m2, m3, m4⟩ := hred.nest (fun k _ => two k) hba hbm (word_get ha) (by rw [word_get hb', hab]) (word_get hkl) h1 h2
          have hml : m < l.length := by omega
          rw [word_get hml] at m4
          injection m4 with m4
          have t := tgt_of_key hin hone h0 h3 hred hkl hml (Ne.symm m3) m4.symm
          have := idxOf_place hin hone hml t
          omega
        rcases hkk with ⟨q1, q2⟩ | ⟨q1, q2⟩
        · obtain ⟨r1, r2⟩ := fin i j hi hj hk hb q1 q2
          omega
        · obtain ⟨r1, r2⟩ := fin j i hj hi hk.symm (by rw [← hk]; exact hb) q1 q2
          omega
end
theorem end_place {C R : Nat} {l : List Step} (h : okSteps (flatS C R) l) (hc : (foldAll (flatS C R) l).cols = 1) (hr : (foldAll (flatS C R) l).rows = 1) {a b : Nat} (ha : a < C) (hb : b < R) : (endPile C R l).countP (atPlace a b) = 1 := by
  have h1 := tot_place_all ha hb h
  rw [← countP_flatten, piles_one hc hr] at h1; exact h1
end Go.Proofs.YtjcijogdcafloaaDoor
