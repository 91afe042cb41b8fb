/- Fonts in plain words. No program is in sight here. -/
import Derived.Lib.Hide
namespace Go.Proofs.YtefkglmdkjkbiaaDoor
namespace Fnt
structure Pt where
  x : Int
  y : Int
  on : Bool
deriving DecidableEq, Inhabited
structure Part where
  g : Int
  x : Int
  y : Int
deriving DecidableEq, Inhabited
structure Gl where
  adv : Int
  cs : List (List Pt)
  ps : List Part
deriving DecidableEq, Inhabited
structure Rg where
  lo : Int
  hi : Int
  g : Int
deriving DecidableEq, Inhabited
structure Kp where
  l : Int
  r : Int
  by_ : Int
deriving DecidableEq, Inhabited
structure Font where
  unit : Int
  gs : List Gl
  map : List Rg
  kern : List Kp
deriving DecidableEq, Inhabited
/-- The first error of n things. -/
def scan (f : Nat → Int) : Nat → Int
  | 0 => 0
  | n + 1 => if scan f n = 0 then f n else scan f n
theorem scan_succ {f : Nat → Int} {n : Nat} (h : scan f n = 0) : scan f (n + 1) = f n := by simp [scan, h]
theorem scan_late {f : Nat → Int} {n : Nat} (h : scan f n ≠ 0) (m : Nat) : scan f (n + m) = scan f n := by
  induction m with
  | zero => rfl
  | succ m ih => rw [← Nat.add_assoc]; simp [scan, ih, h]
theorem scan_at {f : Nat → Int} {k n : Nat} (hk : k < n) (h0 : scan f k = 0) (h : f k ≠ 0) : scan f n = f k := by
  have h1 := scan_succ h0
  have := scan_late (f := f) (n := k + 1) (by rw [h1]; exact h) (n - (k + 1))
  rw [show k + 1 + (n - (k + 1)) = n by omega, h1] at this
  exact this
theorem scan_zero {f : Nat → Int} {n : Nat} : scan f n = 0 ↔ ∀ j, j < n → f j = 0 := by
  induction n with
  | zero => simp [scan]
  | succ n ih =>
    constructor
    · intro h j hj
      by_cases h0 : scan f n = 0
      · rcases Nat.lt_succ_iff_lt_or_eq.1 hj with h1 | rfl
        · exact ih.1 h0 j h1
        · rw [← scan_succ h0]; exact h
      · exact absurd (by simp [scan, h0] at h) h0
    · intro h
      have h0 : scan f n = 0 := ih.2 fun j hj => h j (by omega)
      rw [scan_succ h0]; exact h n (by omega)
def far (n : Int) : Bool := decide (n < -2047) || decide (2047 < n)
def pt (l : List Pt) (i : Nat) : Pt := l.getD i default
def ptE (l : List Pt) (i : Nat) : Int := if far (pt l i).x || far (pt l i).y then 3 else if decide (0 < i) && (!(pt l i).on && !(pt l (i - 1)).on) then 4 else 0
def contourE (l : List Pt) : Int := if l.length < 3 then 4 else if (pt l 0).on = false then 4 else if 32 < l.length then 2 else scan (ptE l) l.length
def partE (many : Nat) (p : Part) : Int := if decide (p.g < 0) || decide ((many : Int) ≤ p.g) then 8 else if far p.x || far p.y then 3 else 0
def conE (g : Gl) (i : Nat) : Int := contourE (g.cs.getD i [])
def parE (many : Nat) (g : Gl) (i : Nat) : Int := partE many (g.ps.getD i default)
def glyphE (g : Gl) (many : Nat) : Int :=
  if decide (g.adv < 0) || decide (2047 < g.adv) then 3 else if decide (0 < g.cs.length) && decide (0 < g.ps.length) then 4 else if decide (8 < g.cs.length) || decide (4 < g.ps.length) then 2
  else if scan (conE g) g.cs.length = 0 then scan (parE many g) g.ps.length else scan (conE g) g.cs.length
def rg (F : Font) (i : Nat) : Rg := F.map.getD i default
def kp (F : Font) (i : Nat) : Kp := F.kern.getD i default
def gl (F : Font) (i : Nat) : Gl := F.gs.getD i default
def cmpI (a b : Int) : Int := if a < b then -1 else if b < a then 1 else 0
def pairC (a b : Kp) : Int := if cmpI a.l b.l = 0 then cmpI a.r b.r else cmpI a.l b.l
def mapE (F : Font) (i : Nat) : Int :=
  if decide ((rg F i).lo < 0) || (decide ((rg F i).hi < (rg F i).lo) || decide (1114111 < (rg F i).hi)) then 3
  else if decide ((rg F i).g < 0) || (decide ((F.gs.length : Int) ≤ (rg F i).g) || decide ((F.gs.length : Int) ≤ (rg F i).g + (rg F i).hi - (rg F i).lo)) then 8
  else if decide (0 < i) && decide ((rg F i).lo ≤ (rg F (i - 1)).hi) then 18 else 0
def kernE (F : Font) (i : Nat) : Int :=
  if decide ((kp F i).l < 0) || (decide ((F.gs.length : Int) ≤ (kp F i).l) || (decide ((kp F i).r < 0) || decide ((F.gs.length : Int) ≤ (kp F i).r))) then 8
  else if decide ((kp F i).by_ = 0) || far (kp F i).by_ then 3
  else if decide (0 < i) && decide (0 ≤ pairC (kp F (i - 1)) (kp F i)) then 18 else 0
def tablesE (F : Font) : Int := if scan (mapE F) F.map.length = 0 then scan (kernE F) F.kern.length else scan (mapE F) F.map.length
/-! What is known of glyphs and their parts. -/
structure Nst where
  st : Fin 3
  dp : Int
  pt : Int
deriving DecidableEq, Inhabited
def nst (L : List Nst) (i : Nat) : Nst := L.getD i ⟨0, 0, 0⟩
def parts (V : Nat → List Nst → Int × List Nst) : List Part → Nst → List Nst → Int × Nst × List Nst
  | [], n, L => (0, n, L)
  | p :: r, n, L => if (V p.g.toNat L).1 = 0 then parts V r ⟨2, max n.dp ((nst (V p.g.toNat L).2 p.g.toNat).dp + 1), min (n.pt + (nst (V p.g.toNat L).2 p.g.toNat).pt) 1048576⟩ (V p.g.toNat L).2 else ((V p.g.toNat L).1, n, (V p.g.toNat L).2)
def own (g : Gl) : Nat := (g.cs.map List.length).sum
def vis (F : Font) : Nat → Nat → List Nst → Int × List Nst
  | 0, _, L => (0, L)
  | f + 1, g, L => if (nst L g).st = 1 then (13, L) else if (nst L g).st = 2 then (0, L) else
    let r := parts (vis F f) (gl F g).ps ⟨2, 1, own (gl F g)⟩ (L.set g ⟨1, (nst L g).dp, (nst L g).pt⟩)
    if r.1 = 0 then (0, r.2.2.set g r.2.1) else (r.1, r.2.2)
theorem parts_append (V : Nat → List Nst → Int × List Nst) (a b : List Part) (n : Nst) (L : List Nst) (h : (parts V a n L).1 = 0) : parts V (a ++ b) n L = parts V b (parts V a n L).2.1 (parts V a n L).2.2 := by
  induction a generalizing n L with
  | nil => rfl
  | cons p r ih =>
    simp only [List.cons_append, parts] at h ⊢
    by_cases h0 : (V p.g.toNat L).1 = 0
    · rw [if_pos h0] at h ⊢; rw [if_pos h0]; exact ih _ _ h
    · rw [if_neg h0] at h; exact absurd h h0
theorem parts_bad (V : Nat → List Nst → Int × List Nst) (a b : List Part) (n : Nst) (L : List Nst) (h : (parts V a n L).1 ≠ 0) : parts V (a ++ b) n L = parts V a n L := by
  induction a generalizing n L with
  | nil => exact absurd rfl h
  | cons p r ih =>
    simp only [List.cons_append, parts] at h ⊢
    by_cases h0 : (V p.g.toNat L).1 = 0
    · rw [if_pos h0] at h ⊢; rw [if_pos h0]; exact ih _ _ h
    · rw [if_neg h0, if_neg h0]
/-- What a walk through the glyphs keeps: what was begun or known. -/
def Keeps (L L' : List Nst) : Prop := L'.length = L.length ∧ ∀ i, (nst L i).st ≠ 0 → nst L' i = nst L i
theorem Keeps.refl (L : List Nst) : Keeps L L := ⟨rfl, fun _ _ => rfl⟩
theorem Keeps.trans {A B C : List Nst} (h : Keeps A B) (k : Keeps B C) : Keeps A C := ⟨k.1.trans h.1, fun i hi => by rw [k.2 i (by rw [h.2 i hi]; exact hi), h.2 i hi]⟩
theorem nst_set (L : List Nst) (g i : Nat) (n : Nst) : nst (L.set g n) i = if g = i ∧ g < L.length then n else nst L i := by
  unfold nst
  rw [List.getD_eq_getElem?_getD, List.getD_eq_getElem?_getD, List.getElem?_set]
  by_cases h : g = i
  · subst h
    by_cases h2 : g < L.length
    · simp [h2]
    · simp [h2]
  · simp [h]
theorem parts_keeps {V : Nat → List Nst → Int × List Nst} (hV : ∀ g L, Keeps L (V g L).2) : ∀ (a : List Part) (n : Nst) (L : List Nst), Keeps L (parts V a n L).2.2
  | [], _, L => Keeps.refl L
  | p :: r, n, L => by
    simp only [parts]
    split
    · exact (hV _ L).trans (parts_keeps hV r _ _)
    · exact hV _ L
theorem st_zero : ∀ s : Fin 3, s ≠ 1 → s ≠ 2 → s = 0 := by decide
theorem vis_keeps (F : Font) : ∀ (f g : Nat) (L : List Nst), Keeps L (vis F f g L).2
  | 0, _, L => Keeps.refl L
  | f + 1, g, L => by
    unfold vis
    split
    · exact Keeps.refl L
    · rename_i h1
      split
      · exact Keeps.refl L
      · rename_i h2
        have h0 : (nst L g).st = 0 := st_zero _ h1 h2
        have hk := parts_keeps (vis_keeps F f) (gl F g).ps ⟨2, 1, own (gl F g)⟩ (L.set g ⟨1, (nst L g).dp, (nst L g).pt⟩)
        have h3 : ∀ i, (nst L i).st ≠ 0 → g ≠ i := fun i hi e => hi (e ▸ h0)
        have hb : ∀ i, (nst L i).st ≠ 0 → nst (L.set g ⟨1, (nst L g).dp, (nst L g).pt⟩) i = nst L i := fun i hi => by rw [nst_set, if_neg fun e => h3 i hi e.1]
        have hall : ∀ i, (nst L i).st ≠ 0 → nst (parts (vis F f) (gl F g).ps ⟨2, 1, own (gl F g)⟩ (L.set g ⟨1, (nst L g).dp, (nst L g).pt⟩)).2.2 i = nst L i := fun i hi => by
          rw [hk.2 i (by rw [hb i hi]; exact hi), hb i hi]
        dsimp only
        split
        · exact ⟨by rw [List.length_set, hk.1, List.length_set], fun i hi => by rw [nst_set, if_neg fun e => h3 i hi e.1, hall i hi]⟩
        · exact ⟨by rw [hk.1, List.length_set], hall⟩
/-- How many glyphs were not begun. -/
def fresh (L : List Nst) : Nat := L.countP fun n => n.st = 0
/-- How many glyphs are known. -/
def done (L : List Nst) : Nat := L.countP fun n => n.st = 2
theorem countP_le {p q : Nst → Bool} : ∀ {A B : List Nst}, A.length = B.length → (∀ i, i < A.length → p (nst A i) = true → q (nst B i) = true) → A.countP p ≤ B.countP q
  | [], [], _, _ => Nat.le_refl _
  | a :: A, b :: B, hl, h => by
    have h1 := h 0 (by simp)
    have h2 := countP_le (p := p) (q := q) (A := A) (B := B) (by simpa using hl) fun i hi hp => h (i + 1) (by simp; omega) hp
    rw [List.countP_cons, List.countP_cons]
    have e : p a = true → q b = true := h1
    by_cases ha : p a = true
    · rw [if_pos ha, if_pos (e ha)]; omega
    · rw [if_neg ha]; split <;> omega
theorem Keeps.fresh {L L' : List Nst} (h : Keeps L L') : fresh L' ≤ fresh L :=
  countP_le h.1 fun i _ hp => by
    have h0 : (nst L' i).st = 0 := by simpa using hp
    have : (nst L i).st = 0 := by
      by_cases h1 : (nst L i).st = 0
      · exact h1
      · rw [h.2 i h1] at h0; exact absurd h0 h1
    simp [this]
theorem Keeps.done {L L' : List Nst} (h : Keeps L L') : done L ≤ done L' :=
  countP_le h.1.symm fun i _ hp => by
    have h2 : (nst L i).st = 2 := by simpa using hp
    rw [h.2 i (by rw [h2]; decide), h2]; rfl
theorem fresh_begin {L : List Nst} {g : Nat} (hg : g < L.length) (h : (nst L g).st = 0) (a b : Int) : fresh (L.set g ⟨1, a, b⟩) + 1 = fresh L := by
  induction L generalizing g with
  | nil => simp at hg
  | cons n L ih =>
    cases g with
    | zero =>
      have h0 : n.st = 0 := h
      simp [fresh, h0]
    | succ g =>
      have := ih (g := g) (by simpa using hg) h
      simp only [fresh, List.set_cons_succ, List.countP_cons] at this ⊢
      omega
theorem done_end {L : List Nst} {g : Nat} (hg : g < L.length) (h : (nst L g).st = 1) {n : Nst} (hn : n.st = 2) : done (L.set g n) = done L + 1 := by
  induction L generalizing g with
  | nil => simp at hg
  | cons m L ih =>
    cases g with
    | zero =>
      have h0 : m.st = 1 := h
      simp [done, h0, hn]
    | succ g =>
      have := ih (g := g) (by simpa using hg) h
      simp only [done, List.set_cons_succ, List.countP_cons] at this ⊢
      omega
theorem done_le (L : List Nst) : done L ≤ L.length := List.countP_le_length
/-- Depths and numbers of points are small. -/
def Bd (L : List Nst) : Prop := ∀ i, 0 ≤ (nst L i).dp ∧ (nst L i).dp ≤ done L ∧ 0 ≤ (nst L i).pt ∧ (nst L i).pt ≤ 1048576
def Nb (n : Nst) (d : Nat) : Prop := n.st = 2 ∧ 1 ≤ n.dp ∧ n.dp ≤ (d : Int) + 1 ∧ 0 ≤ n.pt ∧ n.pt ≤ 1048576
theorem parts_bd {V : Nat → List Nst → Int × List Nst} (hK : ∀ g L, Keeps L (V g L).2) (hB : ∀ g L, Bd L → Bd (V g L).2) : ∀ (a : List Part) (n : Nst) (L : List Nst), Bd L → Nb n (done L) → Bd (parts V a n L).2.2 ∧ Nb (parts V a n L).2.1 (done (parts V a n L).2.2)
  | [], n, L, h, hn => ⟨h, hn⟩
  | p :: r, n, L, h, hn => by
    have hd := (hK p.g.toNat L).done
    have h1 := hB p.g.toNat L h
    obtain ⟨n0, n1, n2, n3, n4⟩ := hn
    simp only [parts]
    split
    · refine parts_bd hK hB r _ _ h1 ⟨rfl, ?_, ?_, ?_, ?_⟩
      all_goals
        obtain ⟨b1, b2, b3, b4⟩ := h1 p.g.toNat
        generalize (V p.g.toNat L).2 = L2 at *
        dsimp only
        omega
    · exact ⟨h1, n0, n1, by dsimp only; omega, n3, n4⟩
theorem vis_bd {F : Font} (hF : ∀ g, own (gl F g) ≤ 1048576) : ∀ (f g : Nat) (L : List Nst), Bd L → Bd (vis F f g L).2
  | 0, _, _, h => h
  | f + 1, g, L, h => by
    unfold vis
    split
    · exact h
    · rename_i h1
      split
      · exact h
      · rename_i h2
        have h0 : (nst L g).st = 0 := st_zero _ h1 h2
        have hk1 : Keeps L (L.set g ⟨1, (nst L g).dp, (nst L g).pt⟩) := ⟨by rw [List.length_set], fun i hi => by
          rw [nst_set, if_neg (fun e : g = i ∧ _ => hi (e.1 ▸ h0))]⟩
        have hb1 : Bd (L.set g ⟨1, (nst L g).dp, (nst L g).pt⟩) := fun i => by
          have hd := hk1.done
          rw [nst_set]
          split
          · obtain ⟨a, b, c, d⟩ := h g
            exact ⟨a, by dsimp only; omega, c, d⟩
          · obtain ⟨a, b, c, d⟩ := h i
            exact ⟨a, by omega, c, d⟩
        have hp := parts_bd (vis_keeps F f) (vis_bd hF f) (gl F g).ps ⟨2, 1, own (gl F g)⟩ _ hb1 ⟨rfl, by dsimp only; omega, by dsimp only; omega, by dsimp only; omega, by have := hF g; dsimp only; omega⟩
        have hk := parts_keeps (vis_keeps F f) (gl F g).ps ⟨2, 1, own (gl F g)⟩ (L.set g ⟨1, (nst L g).dp, (nst L g).pt⟩)
        dsimp only
        generalize parts (vis F f) (gl F g).ps ⟨2, 1, own (gl F g)⟩ (L.set g ⟨1, (nst L g).dp, (nst L g).pt⟩) = r at *
        obtain ⟨hb, m0, m1, m2, m3, m4⟩ := hp
        split
        · by_cases hg : g < L.length
          · have hs : (nst r.2.2 g).st = 1 := by
              have e : nst (L.set g ⟨1, (nst L g).dp, (nst L g).pt⟩) g = ⟨1, (nst L g).dp, (nst L g).pt⟩ := by rw [nst_set, if_pos ⟨rfl, hg⟩]
              rw [hk.2 g (by rw [e]; show (1 : Fin 3) ≠ 0; decide), e]
            have hlen : r.2.2.length = L.length := by rw [hk.1, List.length_set]
            intro i
            rw [done_end (by rw [hlen]; exact hg) hs m0, nst_set]
            split
            · exact ⟨by omega, by omega, m3, m4⟩
            · obtain ⟨a, b, c, d⟩ := hb i
              exact ⟨a, by omega, c, d⟩
          · rw [List.set_eq_of_length_le (by rw [hk.1, List.length_set]; omega)]; exact hb
        · exact hb
end Fnt
end Go.Proofs.YtefkglmdkjkbiaaDoor
