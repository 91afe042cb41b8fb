/- Pages on plates in plain Lean: boxes, turns, the two lists of a sheet; they lie within the plate and apart; the two pages of a leaf lie on top of each other. No program is in sight here. -/
import Derived.Test.YtjcijogdcafloaaFoldLaw
namespace Go.Proofs.Ytjcijogdcafloaa
structure Bx6 where
  fw : Int
  fh : Int
  x : Int
  y : Int
  w : Int
  h : Int
def Bx6.turn1 (b : Bx6) : Bx6 := ⟨b.fh, b.fw, b.fh - b.y - b.h, b.x, b.h, b.w⟩
def Bx6.turnN (b : Bx6) : Nat → Bx6
  | 0 => b
  | k + 1 => (b.turnN k).turn1
/-- A layout: what Sheet needs of it. odd: the pages lie on their sides. -/
structure Lay where
  C : Nat
  R : Nat
  W : Int
  H : Int
  head : Int
  fore : Int
  spine : Int
  margin : Int
  creep : Int
  style : Int
  odd : Bool
structure Pla where
  page : Int
  x : Int
  y : Int
  turn : Int
namespace Lay
variable (L : Lay)
def fw : Int := L.W + L.fore + L.spine
def fh : Int := L.H + 2 * L.head
def lw : Int := if L.odd then L.fh else L.fw
def lh : Int := if L.odd then L.fw else L.fh
def sw : Int := 2 * L.margin + L.C * L.lw
def sh : Int := 2 * L.margin + L.R * L.lh
def pw : Int := if L.style = 1 then L.sw * 2 else L.sw
def ph : Int := if L.style = 2 then L.sh * 2 else L.sh
/-- Pairs of leaves that enclose leaf i/2. -/
def dep (i : Nat) : Nat := min (i / 2) (L.C * L.R - 1 - i / 2)
def inner (i : Nat) : Int := L.spine - L.creep * (L.dep i : Int)
def box0 (i : Nat) : Bx6 := ⟨L.fw, L.fh, if i % 2 = 1 then L.fw - L.inner i - L.W else L.inner i, L.head, L.W, L.H⟩
def boxT (i : Nat) (p : Pg) : Bx6 := (L.box0 i).turnN p.turn
def placeB (i : Nat) (p : Pg) : Bx6 := ⟨L.sw, L.sh, L.margin + p.col * L.lw + (L.boxT i p).x, L.margin + p.row * L.lh + (L.boxT i p).y, (L.boxT i p).w, (L.boxT i p).h⟩
def plc (i : Nat) (p : Pg) : Pla :=
  if L.style = 1 ∧ p.back = true then ⟨(i : Int) + 1, (L.placeB i p).x + L.sw, (L.placeB i p).y, p.turn⟩
  else if L.style = 2 ∧ p.back = true then ⟨(i : Int) + 1, L.sw - (L.placeB i p).x - (L.placeB i p).w, L.sh + (L.sh - (L.placeB i p).y - (L.placeB i p).h), ((p.turn + 2) % 4 : Nat)⟩
  else ⟨(i : Int) + 1, (L.placeB i p).x, (L.placeB i p).y, p.turn⟩
def inF (p : Pg) : Bool := !(L.style == 0 && p.back)
def inB (p : Pg) : Bool := !(L.style == 0 && !p.back)
def frontTo (ps : List Pg) (k : Nat) : List Pla := (List.range k).flatMap fun i => if L.inF (ps.getD i ⟨false, 0, 0, 0⟩) then [L.plc i (ps.getD i ⟨false, 0, 0, 0⟩)] else []
def backTo (ps : List Pg) (k : Nat) : List Pla := (List.range k).flatMap fun i => if L.inB (ps.getD i ⟨false, 0, 0, 0⟩) then [L.plc i (ps.getD i ⟨false, 0, 0, 0⟩)] else []
theorem frontTo_succ (ps : List Pg) (k : Nat) : L.frontTo ps (k + 1) = L.frontTo ps k ++ if L.inF (ps.getD k ⟨false, 0, 0, 0⟩) then [L.plc k (ps.getD k ⟨false, 0, 0, 0⟩)] else [] := by
  unfold frontTo; rw [List.range_succ, List.flatMap_append]; simp
theorem backTo_succ (ps : List Pg) (k : Nat) : L.backTo ps (k + 1) = L.backTo ps k ++ if L.inB (ps.getD k ⟨false, 0, 0, 0⟩) then [L.plc k (ps.getD k ⟨false, 0, 0, 0⟩)] else [] := by
  unfold backTo; rw [List.range_succ, List.flatMap_append]; simp
/-- The rectangle of a placed page, as the laws take it. -/
def bw (t : Int) : Int := if t % 2 = 1 then L.H else L.W
def bh (t : Int) : Int := if t % 2 = 1 then L.W else L.H
/-- A layout that Check accepts. -/
structure Ok : Prop where
  c1 : 1 ≤ L.C
  r1 : 1 ≤ L.R
  cr : L.C * L.R ≤ 32
  w1 : 1 ≤ L.W
  h1 : 1 ≤ L.H
  head0 : 0 ≤ L.head
  fore0 : 0 ≤ L.fore
  spine0 : 0 ≤ L.spine
  margin0 : 0 ≤ L.margin
  creep0 : 0 ≤ L.creep
  creep8 : L.creep ≤ 8
  fit : ((L.C * L.R - 1) / 2 : Nat) * L.creep ≤ L.spine
  s0 : 0 ≤ L.style
  s2 : L.style ≤ 2
/-- The pages that fold.Pages returns for it. -/
structure Pages (ps : List Pg) : Prop where
  len : ps.length = 2 * (L.C * L.R)
  inn : ∀ p ∈ ps, p.col < L.C ∧ p.row < L.R ∧ p.turn < 4 ∧ ((p.turn % 2 == 1) = L.odd)
  one : ∀ i, i < 2 * (L.C * L.R) → ps.countP (pcount L.C (L.C * L.R) i) = 1
end Lay
section
variable {L : Lay} (ok : L.Ok)
include ok
theorem dep_le {i : Nat} (hi : i < 2 * (L.C * L.R)) : L.dep i ≤ (L.C * L.R - 1) / 2 := by
  have _ := ok.c1
  unfold Lay.dep; generalize L.C * L.R = n at *; omega
theorem inner_range {i : Nat} (hi : i < 2 * (L.C * L.R)) : 0 ≤ L.inner i ∧ L.inner i ≤ L.spine := by
  have h1 := dep_le ok hi
  have h2 : L.creep * (L.dep i : Int) ≤ ((L.C * L.R - 1) / 2 : Nat) * L.creep := by
    rw [Int.mul_comm]
    exact Int.mul_le_mul_of_nonneg_right (by omega) ok.creep0
  have h3 := ok.fit
  have h4 : 0 ≤ L.creep * (L.dep i : Int) := Int.mul_nonneg ok.creep0 (by omega)
  unfold Lay.inner; omega
/-- A turned box lies in its leaf. -/
structure InLeaf (L : Lay) (b : Bx6) (o : Bool) (t : Nat) : Prop where
  fw : b.fw = if o then L.fh else L.fw
  fh : b.fh = if o then L.fw else L.fh
  x0 : 0 ≤ b.x
  x1 : b.x + b.w ≤ b.fw
  y0 : 0 ≤ b.y
  y1 : b.y + b.h ≤ b.fh
  w : b.w = L.bw t
  h : b.h = L.bh t
theorem boxT_in {i : Nat} (hi : i < 2 * (L.C * L.R)) (k : Nat) : InLeaf L ((L.box0 i).turnN k) (k % 2 == 1) k := by
  obtain ⟨i0, i1⟩ := inner_range ok hi
  have a1 := ok.w1
  have a2 := ok.h1
  have a3 := ok.head0
  have a4 := ok.fore0
  induction k with
  | zero =>
    refine ⟨rfl, rfl, ?_, ?_, a3, ?_, by simp [Lay.bw, Bx6.turnN, Lay.box0], by simp [Lay.bh, Bx6.turnN, Lay.box0]⟩
    · simp only [Bx6.turnN, Lay.box0, Lay.fw]; split <;> omega
    · simp only [Bx6.turnN, Lay.box0, Lay.fw]; split <;> omega
    · simp only [Bx6.turnN, Lay.box0, Lay.fh]; omega
  | succ k ih =>
    obtain ⟨f1, f2, b1, b2, b3, b4, b5, b6⟩ := ih
    have hpar : ((k + 1) % 2 == 1) = !(k % 2 == 1) := by
      rw [Bool.eq_iff_iff]; simp; omega
    have hp2 : (((k + 1 : Nat) : Int) % 2 = 1) ↔ ¬ ((k : Int) % 2 = 1) := by omega
    refine ⟨?_, ?_, ?_, ?_, ?_, ?_, ?_, ?_⟩
    · simp only [Bx6.turnN, Bx6.turn1, f2, hpar]; cases (k % 2 == 1) <;> rfl
    · simp only [Bx6.turnN, Bx6.turn1, f1, hpar]; cases (k % 2 == 1) <;> rfl
    · simp only [Bx6.turnN, Bx6.turn1]; omega
    · simp only [Bx6.turnN, Bx6.turn1]; omega
    · simp only [Bx6.turnN, Bx6.turn1]; omega
    · simp only [Bx6.turnN, Bx6.turn1]; omega
    · simp only [Bx6.turnN, Bx6.turn1, b6, Lay.bw, Lay.bh, hp2]; split <;> simp_all
    · simp only [Bx6.turnN, Bx6.turn1, b5, Lay.bw, Lay.bh, hp2]; split <;> simp_all
omit ok in
theorem cell_end {m a c w b bw : Int} (hb : b + bw ≤ w) : m + a * w + b + bw ≤ m + (a + 1) * w ∧ m + (a + 1) * w = m + a * w + w := by
  have _ := c
  have h : (a + 1) * w = a * w + w := by rw [Int.add_mul, Int.one_mul]
  omega
/-- A page's box lies in its cell of the grid. -/
theorem placeB_in {i : Nat} (hi : i < 2 * (L.C * L.R)) {p : Pg} (hp : (p.turn % 2 == 1) = L.odd) :
    L.margin + p.col * L.lw ≤ (L.placeB i p).x ∧ (L.placeB i p).x + (L.placeB i p).w ≤ L.margin + (p.col + 1) * L.lw ∧
    L.margin + p.row * L.lh ≤ (L.placeB i p).y ∧ (L.placeB i p).y + (L.placeB i p).h ≤ L.margin + (p.row + 1) * L.lh ∧
    (L.placeB i p).w = L.bw p.turn ∧ (L.placeB i p).h = L.bh p.turn ∧ 1 ≤ (L.placeB i p).w ∧ 1 ≤ (L.placeB i p).h := by
  obtain ⟨f1, f2, b1, b2, b3, b4, b5, b6⟩ := boxT_in ok hi p.turn
  rw [hp] at f1 f2
  have e1 : ((L.box0 i).turnN p.turn).fw = L.lw := f1
  have e2 : ((L.box0 i).turnN p.turn).fh = L.lh := f2
  rw [e1] at b2
  rw [e2] at b4
  have a1 := ok.w1
  have a2 := ok.h1
  simp only [Lay.placeB, Lay.boxT]
  have x2 := (cell_end (m := L.margin) (a := (p.col : Int)) (c := 0) b2).1
  have y2 := (cell_end (m := L.margin) (a := (p.row : Int)) (c := 0) b4).1
  refine ⟨by omega, by omega, by omega, by omega, b5, b6, ?_, ?_⟩
  · rw [b5]; unfold Lay.bw; split <;> omega
  · rw [b6]; unfold Lay.bh; split <;> omega
omit ok in
theorem mul_le_of_le {a b w : Int} (h : a ≤ b) (hw : 0 ≤ w) : a * w ≤ b * w := Int.mul_le_mul_of_nonneg_right h hw
theorem lw_pos : 0 ≤ L.lw ∧ 0 ≤ L.lh := by
  have := ok.w1; have := ok.h1; have := ok.head0; have := ok.fore0; have := ok.spine0
  unfold Lay.lw Lay.lh Lay.fw Lay.fh; split <;> omega
theorem placeB_frame {i : Nat} (hi : i < 2 * (L.C * L.R)) {p : Pg} (hp : (p.turn % 2 == 1) = L.odd) (hc : p.col < L.C) (hr : p.row < L.R) :
    0 ≤ (L.placeB i p).x ∧ (L.placeB i p).x + (L.placeB i p).w ≤ L.sw ∧ 0 ≤ (L.placeB i p).y ∧ (L.placeB i p).y + (L.placeB i p).h ≤ L.sh := by
  obtain ⟨b1, b2, b3, b4, _⟩ := placeB_in ok hi hp
  obtain ⟨l1, l2⟩ := lw_pos ok
  have m0 := ok.margin0
  have x1 := Int.mul_nonneg (show (0 : Int) ≤ (p.col : Int) by omega) l1
  have y1 := Int.mul_nonneg (show (0 : Int) ≤ (p.row : Int) by omega) l2
  have x2 := mul_le_of_le (show ((p.col : Int) + 1) ≤ (L.C : Int) by omega) l1
  have y2 := mul_le_of_le (show ((p.row : Int) + 1) ≤ (L.R : Int) by omega) l2
  unfold Lay.sw Lay.sh
  omega
/-- Two boxes lie apart. -/
def Apart (x y w h x' y' w' h' : Int) : Prop := x + w ≤ x' ∨ x' + w' ≤ x ∨ y + h ≤ y' ∨ y' + h' ≤ y
theorem placeB_apart {i j : Nat} (hi : i < 2 * (L.C * L.R)) (hj : j < 2 * (L.C * L.R)) {p q : Pg} (hp : (p.turn % 2 == 1) = L.odd) (hq : (q.turn % 2 == 1) = L.odd) (hne : p.col ≠ q.col ∨ p.row ≠ q.row) :
    Apart (L.placeB i p).x (L.placeB i p).y (L.placeB i p).w (L.placeB i p).h (L.placeB j q).x (L.placeB j q).y (L.placeB j q).w (L.placeB j q).h := by
  obtain ⟨a1, a2, a3, a4, _⟩ := placeB_in ok hi hp
  obtain ⟨b1, b2, b3, b4, _⟩ := placeB_in ok hj hq
  obtain ⟨l1, l2⟩ := lw_pos ok
  unfold Apart
  have hd : p.col < q.col ∨ q.col < p.col ∨ p.row < q.row ∨ q.row < p.row := by omega
  rcases hd with h | h | h | h
  · have := mul_le_of_le (show ((p.col : Int) + 1) ≤ (q.col : Int) by omega) l1; omega
  · have := mul_le_of_le (show ((q.col : Int) + 1) ≤ (p.col : Int) by omega) l1; omega
  · have := mul_le_of_le (show ((p.row : Int) + 1) ≤ (q.row : Int) by omega) l2; omega
  · have := mul_le_of_le (show ((q.row : Int) + 1) ≤ (p.row : Int) by omega) l2; omega
omit ok in
theorem bw_turn2 (L : Lay) {t : Nat} (_ht : t < 4) : L.bw ((t + 2) % 4 : Nat) = L.bw t ∧ L.bh ((t + 2) % 4 : Nat) = L.bh t := by
  unfold Lay.bw Lay.bh
  have : ((((t + 2) % 4 : Nat) : Int) % 2 = 1) ↔ ((t : Int) % 2 = 1) := by omega
  simp only [this]; exact ⟨trivial, trivial⟩
theorem plc_in {i : Nat} (hi : i < 2 * (L.C * L.R)) {p : Pg} (hc : p.col < L.C) (hr : p.row < L.R) (ht : p.turn < 4) (hp : (p.turn % 2 == 1) = L.odd) :
    0 ≤ (L.plc i p).x ∧ 0 ≤ (L.plc i p).y ∧ (L.plc i p).x + L.bw (L.plc i p).turn ≤ L.pw ∧ (L.plc i p).y + L.bh (L.plc i p).turn ≤ L.ph := by
  obtain ⟨x0, x1, y0, y1⟩ := placeB_frame ok hi hp hc hr
  obtain ⟨_, _, _, _, bw, bh, w1, h1⟩ := placeB_in ok hi hp
  obtain ⟨t1, t2⟩ := bw_turn2 L ht
  have s0 := ok.s0
  unfold Lay.plc Lay.pw Lay.ph
  by_cases c1 : L.style = 1 ∧ p.back = true
  · rw [if_pos c1, if_pos c1.1, if_neg (by omega)]
    dsimp only; rw [← bw, ← bh]; omega
  · rw [if_neg c1]
    by_cases c2 : L.style = 2 ∧ p.back = true
    · rw [if_pos c2, if_pos c2.1, if_neg (by omega)]
      dsimp only; rw [t1, t2, ← bw, ← bh]; omega
    · rw [if_neg c2]
      dsimp only; rw [← bw, ← bh]
      split <;> split <;> omega
theorem plc_apart {i j : Nat} (hi : i < 2 * (L.C * L.R)) (hj : j < 2 * (L.C * L.R)) {p q : Pg} (hpc : p.col < L.C) (hpr : p.row < L.R) (hqc : q.col < L.C) (hqr : q.row < L.R) (htp : p.turn < 4) (htq : q.turn < 4) (hp : (p.turn % 2 == 1) = L.odd) (hq : (q.turn % 2 == 1) = L.odd)
    (hne : (p.back, p.col, p.row) ≠ (q.back, q.col, q.row)) (hs : L.style = 0 → p.back = q.back) :
    Apart (L.plc i p).x (L.plc i p).y (L.bw (L.plc i p).turn) (L.bh (L.plc i p).turn) (L.plc j q).x (L.plc j q).y (L.bw (L.plc j q).turn) (L.bh (L.plc j q).turn) := by
  obtain ⟨x0, x1, y0, y1⟩ := placeB_frame ok hi hp hpc hpr
  obtain ⟨u0, u1, v0, v1⟩ := placeB_frame ok hj hq hqc hqr
  obtain ⟨_, _, _, _, bw, bh, w1, h1⟩ := placeB_in ok hi hp
  obtain ⟨_, _, _, _, bw', bh', w1', h1'⟩ := placeB_in ok hj hq
  obtain ⟨t1, t2⟩ := bw_turn2 L htp
  obtain ⟨t1', t2'⟩ := bw_turn2 L htq
  have hap : p.back = q.back → Apart (L.placeB i p).x (L.placeB i p).y (L.placeB i p).w (L.placeB i p).h (L.placeB j q).x (L.placeB j q).y (L.placeB j q).w (L.placeB j q).h := fun e =>
    placeB_apart ok hi hj hp hq (by
      by_cases h1 : p.col = q.col
      · by_cases h2 : p.row = q.row
        · exact absurd (by rw [e, h1, h2]) hne
        · exact .inr h2
      · exact .inl h1)
  have s3 : L.style = 0 ∨ L.style = 1 ∨ L.style = 2 := by have := ok.s0; have := ok.s2; omega
  unfold Lay.plc
  generalize L.placeB i p = a at *
  generalize L.placeB j q = b at *
  unfold Apart at hap ⊢
  rcases s3 with s | s | s
  · rw [if_neg (by omega), if_neg (by omega), if_neg (by omega), if_neg (by omega)]
    dsimp only; rw [← bw, ← bh, ← bw', ← bh']; exact hap (hs s)
  · cases hpb : p.back <;> cases hqb : q.back <;> simp [s] <;> simp only [hpb, hqb] at hap <;> rw [← bw, ← bh, ← bw', ← bh']
    · exact hap trivial
    · omega
    · omega
    · have := hap trivial; omega
  · cases hpb : p.back <;> cases hqb : q.back <;> simp [s] <;> simp only [hpb, hqb] at hap
    · rw [← bw, ← bh, ← bw', ← bh']; exact hap trivial
    · have t1' : L.bw (((q.turn : Int) + 2) % 4) = L.bw q.turn := by rw [← t1']; congr 1
      have t2' : L.bh (((q.turn : Int) + 2) % 4) = L.bh q.turn := by rw [← t2']; congr 1
      rw [t1', t2', ← bw, ← bh, ← bw', ← bh']; omega
    · have t1 : L.bw (((p.turn : Int) + 2) % 4) = L.bw p.turn := by rw [← t1]; congr 1
      have t2 : L.bh (((p.turn : Int) + 2) % 4) = L.bh p.turn := by rw [← t2]; congr 1
      rw [t1, t2, ← bw, ← bh, ← bw', ← bh']; omega
    · have t1' : L.bw (((q.turn : Int) + 2) % 4) = L.bw q.turn := by rw [← t1']; congr 1
      have t2' : L.bh (((q.turn : Int) + 2) % 4) = L.bh q.turn := by rw [← t2']; congr 1
      have t1 : L.bw (((p.turn : Int) + 2) % 4) = L.bw p.turn := by rw [← t1]; congr 1
      have t2 : L.bh (((p.turn : Int) + 2) % 4) = L.bh p.turn := by rw [← t2]; congr 1
      rw [t1, t2, t1', t2', ← bw, ← bh, ← bw', ← bh']
      have := hap trivial; omega
omit ok in
/-- Different pages lie at different places. -/
theorem pages_diff {ps : List Pg} (hps : L.Pages ps) {i j : Nat} (hi : i < ps.length) (hj : j < ps.length) (hne : i ≠ j) : (ps[i].back, ps[i].col, ps[i].row) ≠ (ps[j].back, ps[j].col, ps[j].row) := by
  intro e
  injection e with e1 e2
  injection e2 with e2 e3
  have hx : pidx L.C (L.C * L.R) ps[i] = pidx L.C (L.C * L.R) ps[j] := by unfold pidx; rw [e1, e2, e3]
  have key : ∀ i j : Nat, ∀ (hi : i < ps.length) (hj : j < ps.length), i < j → pidx L.C (L.C * L.R) ps[i] = pidx L.C (L.C * L.R) ps[j] → False := by
    intro i j hi hj hlt hx
    obtain ⟨c1, c2, _, _⟩ := hps.inn _ (List.getElem_mem hi)
    have hle : ps[i].row * L.C + ps[i].col < L.C * L.R := by
      have h1 : (ps[i].row + 1) * L.C ≤ L.R * L.C := Nat.mul_le_mul_right L.C c2
      rw [Nat.succ_mul] at h1; rw [Nat.mul_comm L.C L.R]; omega
    have hb : pidx L.C (L.C * L.R) ps[i] < 2 * (L.C * L.R) := by unfold pidx; split <;> omega
    have h1 := hps.one _ hb
    have hsplit : ps.countP (pcount L.C (L.C * L.R) (pidx L.C (L.C * L.R) ps[i])) = (ps.take j).countP (pcount L.C (L.C * L.R) (pidx L.C (L.C * L.R) ps[i])) + (ps.drop j).countP (pcount L.C (L.C * L.R) (pidx L.C (L.C * L.R) ps[i])) := by
      rw [← List.countP_append, List.take_append_drop]
    have a1 : 0 < (ps.take j).countP (pcount L.C (L.C * L.R) (pidx L.C (L.C * L.R) ps[i])) := List.countP_pos_iff.2 ⟨ps[i], List.mem_of_getElem? (i := i) (by rw [List.getElem?_take_of_lt hlt, List.getElem?_eq_getElem hi]), by simp [pcount]⟩
    have a2 : 0 < (ps.drop j).countP (pcount L.C (L.C * L.R) (pidx L.C (L.C * L.R) ps[i])) := List.countP_pos_iff.2 ⟨ps[j], List.mem_of_getElem? (i := 0) (by rw [List.getElem?_drop]; simp [hj]), by simp [pcount, hx]⟩
    omega
  rcases Nat.lt_or_ge i j with h | h
  · exact key i j hi hj h hx
  · exact key j i hj hi (by omega) hx.symm
/-- What the law asks of a list of placed pages. -/
def PlOk (L : Lay) (l : List Pla) : Prop :=
  (∀ (a : Nat) (p : Pla), l[a]? = some p → 0 ≤ p.x ∧ 0 ≤ p.y ∧ p.x + L.bw p.turn ≤ L.pw ∧ p.y + L.bh p.turn ≤ L.ph) ∧
  ∀ (a b : Nat) (p q : Pla), a < b → l[a]? = some p → l[b]? = some q → p.page ≠ q.page ∧ Apart q.x q.y (L.bw q.turn) (L.bh q.turn) p.x p.y (L.bw p.turn) (L.bh p.turn)
theorem pl_ok {ps : List Pg} (hps : L.Pages ps) (g : Pg → Bool) (hg : ∀ p q, L.style = 0 → g p = true → g q = true → p.back = q.back) {k : Nat} (hk : k ≤ ps.length) :
    PlOk L ((List.range k).flatMap fun i => if g (ps.getD i ⟨false, 0, 0, 0⟩) then [L.plc i (ps.getD i ⟨false, 0, 0, 0⟩)] else []) := by
  have hlen := hps.len
  have hget : ∀ i (h : i < ps.length), ps.getD i ⟨false, 0, 0, 0⟩ = ps[i] := fun i h => by rw [List.getD_eq_getElem?_getD, List.getElem?_eq_getElem h]; rfl
  have hmem : ∀ p, p ∈ ((List.range k).flatMap fun i => if g (ps.getD i ⟨false, 0, 0, 0⟩) then [L.plc i (ps.getD i ⟨false, 0, 0, 0⟩)] else []) → ∃ i, ∃ h : i < ps.length, g ps[i] = true ∧ p = L.plc i ps[i] := by
    intro p hp
    obtain ⟨i, hi, hx⟩ := List.mem_flatMap.1 hp
    have hik : i < ps.length := by have := List.mem_range.1 hi; omega
    rw [hget i hik] at hx
    split at hx
    · rename_i hgi; exact ⟨i, hik, hgi, by simpa using hx⟩
    · cases hx
  refine ⟨fun a p ha => ?_, fun a b p q hab ha hb => ?_⟩
  · obtain ⟨i, hi, _, rfl⟩ := hmem p (List.mem_of_getElem? ha)
    obtain ⟨c1, c2, c3, c4⟩ := hps.inn _ (List.getElem_mem hi)
    exact plc_in ok (by omega) c1 c2 c3 c4
  · have hpw : List.Pairwise (fun p q : Pla => p.page ≠ q.page ∧ Apart q.x q.y (L.bw q.turn) (L.bh q.turn) p.x p.y (L.bw p.turn) (L.bh p.turn)) ((List.range k).flatMap fun i => if g (ps.getD i ⟨false, 0, 0, 0⟩) then [L.plc i (ps.getD i ⟨false, 0, 0, 0⟩)] else []) := by
      rw [List.pairwise_flatMap]
      refine ⟨fun i _ => by split <;> simp, ?_⟩
      have hr : List.Pairwise (fun i j => i < j ∧ j < k) (List.range k) := by
        rw [List.pairwise_iff_getElem]
        intro i j hi hj hij
        simp only [List.length_range] at hi hj
        simp only [List.getElem_range]; omega
      refine hr.imp ?_
      rintro i j ⟨hij, hjk⟩ x hx y hy
      have hi : i < ps.length := by omega
      have hj : j < ps.length := by omega
      rw [hget i hi] at hx
      rw [hget j hj] at hy
      split at hx
      · rename_i g1
        split at hy
        · rename_i g2
          obtain rfl : x = L.plc i ps[i] := by simpa using hx
          obtain rfl : y = L.plc j ps[j] := by simpa using hy
          obtain ⟨c1, c2, c3, c4⟩ := hps.inn _ (List.getElem_mem hi)
          obtain ⟨d1, d2, d3, d4⟩ := hps.inn _ (List.getElem_mem hj)
          refine ⟨?_, plc_apart ok (by omega) (by omega) d1 d2 c1 c2 d3 c3 d4 c4 (pages_diff hps hj hi (by omega)) fun s => hg _ _ s g2 g1⟩
          have pg : ∀ i p, (L.plc i p).page = (i : Int) + 1 := fun i p => by unfold Lay.plc; split <;> (try split) <;> rfl
          rw [pg, pg]; omega
        · cases hy
      · cases hx
    rw [List.pairwise_iff_getElem] at hpw
    obtain ⟨ha1, ha2⟩ := List.getElem?_eq_some_iff.1 ha
    obtain ⟨hb1, hb2⟩ := List.getElem?_eq_some_iff.1 hb
    have := hpw a b ha1 hb1 hab
    rw [ha2, hb2] at this; exact this
theorem front_ok {ps : List Pg} (hps : L.Pages ps) {k : Nat} (hk : k ≤ ps.length) : PlOk L (L.frontTo ps k) :=
  pl_ok ok hps L.inF (fun p q s h1 h2 => by
    have e : ∀ p, L.inF p = !p.back := fun p => by unfold Lay.inF; rw [s]; rfl
    rw [e] at h1 h2; revert h1 h2; cases p.back <;> cases q.back <;> simp) hk
theorem back_ok {ps : List Pg} (hps : L.Pages ps) {k : Nat} (hk : k ≤ ps.length) : PlOk L (L.backTo ps k) :=
  pl_ok ok hps L.inB (fun p q s h1 h2 => by
    have e : ∀ p, L.inB p = p.back := fun p => by unfold Lay.inB; rw [s]; simp
    rw [e] at h1 h2; rw [h1, h2]) hk
end
/-! The two pages of a leaf. -/
def Bx6.mir (b : Bx6) : Bx6 := { b with x := b.fw - b.x - b.w }
theorem turn4 (b : Bx6) : b.turnN 4 = b := by
  obtain ⟨fw, fh, x, y, w, h⟩ := b
  simp only [Bx6.turnN, Bx6.turn1]
  congr 1 <;> omega
/-- Turned back, the mirrored box is the mirrored one of the turned box. -/
theorem mir_turn (b : Bx6) {s t : Nat} (hs : s < 4) (ht : t < 4) (h : (s + t) % 4 = 0) : b.mir.turnN t = (b.turnN s).mir := by
  obtain ⟨fw, fh, x, y, w, h⟩ := b
  have : (s = 0 ∧ t = 0) ∨ (s = 1 ∧ t = 3) ∨ (s = 2 ∧ t = 2) ∨ (s = 3 ∧ t = 1) := by omega
  rcases this with ⟨rfl, rfl⟩ | ⟨rfl, rfl⟩ | ⟨rfl, rfl⟩ | ⟨rfl, rfl⟩ <;> simp only [Bx6.turnN, Bx6.turn1, Bx6.mir] <;> congr 1 <;> omega
theorem box0_mir (L : Lay) (k : Nat) : L.box0 (2 * k + 1) = (L.box0 (2 * k)).mir := by
  have e1 : (2 * k + 1) % 2 = 1 := by omega
  have e2 : ¬ (2 * k % 2 = 1) := by omega
  have e3 : L.dep (2 * k + 1) = L.dep (2 * k) := by unfold Lay.dep; congr 1 <;> omega
  have e4 : L.inner (2 * k + 1) = L.inner (2 * k) := by unfold Lay.inner; rw [e3]
  unfold Lay.box0 Bx6.mir
  rw [e4, if_pos e1, if_neg e2]
/-- With two plates the two pages of a leaf lie on top of each other. -/
theorem leaf_registers {L : Lay} (ok : L.Ok) {k : Nat} (hk : k < L.C * L.R) {p q : Pg} (hrow : p.row = q.row) (hcol : p.col = L.C - 1 - q.col) (hq : q.col < L.C) (htp : p.turn < 4) (htq : q.turn < 4) (hsum : (p.turn + q.turn) % 4 = 0) (hpo : (p.turn % 2 == 1) = L.odd) :
    (L.placeB (2 * k) p).x = L.sw - ((L.placeB (2 * k + 1) q).x + (L.placeB (2 * k + 1) q).w) ∧ (L.placeB (2 * k) p).y = (L.placeB (2 * k + 1) q).y ∧
    (L.placeB (2 * k) p).w = (L.placeB (2 * k + 1) q).w ∧ (L.placeB (2 * k) p).h = (L.placeB (2 * k + 1) q).h := by
  have hin := boxT_in ok (i := 2 * k) (by omega) p.turn
  have hfw : ((L.box0 (2 * k)).turnN p.turn).fw = L.lw := by rw [hin.fw, hpo]; rfl
  have hb : L.boxT (2 * k + 1) q = (L.boxT (2 * k) p).mir := by
    unfold Lay.boxT; rw [box0_mir]; exact mir_turn _ htp htq hsum
  have ec : (p.col : Int) = (L.C : Int) - 1 - (q.col : Int) := by omega
  have em : (p.col : Int) * L.lw = (L.C : Int) * L.lw - L.lw - (q.col : Int) * L.lw := by rw [ec, Int.sub_mul, Int.sub_mul, Int.one_mul]
  have hfw' : (L.boxT (2 * k) p).fw = L.lw := hfw
  simp only [Lay.placeB, hb, Bx6.mir, hrow, hfw', em, Lay.sw]
  generalize (L.C : Int) * L.lw = cl
  generalize (q.col : Int) * L.lw = ql
  exact ⟨by omega, trivial, trivial, trivial⟩
end Go.Proofs.Ytjcijogdcafloaa
