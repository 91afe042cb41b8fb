/- Marks on a plate, plain law: they lie on the plate and outside of every page; pasting them one after the other gives their pixels. No program is in sight here. -/
import Derived.Test.YtjcijogdcafloaaPasPlain
namespace Go.Proofs.Ytjcijogdcafloaa
structure Mk where
  x : Int
  y : Int
  w : Int
  h : Int
deriving DecidableEq
namespace Lay
variable (L : Lay)
def mn : Int := L.margin / 2
def nx : Nat := if L.style = 1 then 2 else 1
def ny : Nat := if L.style = 2 then 2 else 1
def mkC (x y : Int) (c : Nat) : List Mk := [⟨x + L.margin + c * L.lw, y, 1, L.mn⟩, ⟨x + L.margin + c * L.lw, y + L.sh - L.mn, 1, L.mn⟩]
def mkR (x y : Int) (r : Nat) : List Mk := [⟨x, y + L.margin + r * L.lh, L.mn, 1⟩, ⟨x + L.sw - L.mn, y + L.margin + r * L.lh, L.mn, 1⟩]
/-- The marks of one copy, the first c columns and r rows of them. -/
def mkCs (x y : Int) (c : Nat) : List Mk := (List.range c).flatMap fun i => L.mkC x y (i + 1)
def mkRs (x y : Int) (r : Nat) : List Mk := (List.range r).flatMap fun i => L.mkR x y (i + 1)
def mkCell (x y : Int) : List Mk := L.mkCs x y (L.C - 1) ++ L.mkRs x y (L.R - 1)
def mkRow (y : Int) (i : Nat) : List Mk := (List.range i).flatMap fun k : Nat => L.mkCell (k * L.sw) y
def mkTo (j : Nat) : List Mk := (List.range j).flatMap fun k : Nat => L.mkRow (k * L.sh) L.nx
def marksL : List Mk := if L.mn = 0 then [] else L.mkTo L.ny
theorem mkCs_succ (x y : Int) (c : Nat) : L.mkCs x y (c + 1) = L.mkCs x y c ++ L.mkC x y (c + 1) := by
  unfold mkCs; rw [List.range_succ, List.flatMap_append]; simp
theorem mkRs_succ (x y : Int) (r : Nat) : L.mkRs x y (r + 1) = L.mkRs x y r ++ L.mkR x y (r + 1) := by
  unfold mkRs; rw [List.range_succ, List.flatMap_append]; simp
theorem mkRow_succ (y : Int) (i : Nat) : L.mkRow y (i + 1) = L.mkRow y i ++ L.mkCell (i * L.sw) y := by
  unfold mkRow; rw [List.range_succ, List.flatMap_append]; simp
theorem mkTo_succ (j : Nat) : L.mkTo (j + 1) = L.mkTo j ++ L.mkRow (j * L.sh) L.nx := by
  unfold mkTo; rw [List.range_succ, List.flatMap_append]; simp
theorem mkCs_length (x y : Int) (c : Nat) : (L.mkCs x y c).length = 2 * c := by
  induction c with
  | zero => rfl
  | succ c ih => rw [mkCs_succ, List.length_append, ih]; simp [mkC]; omega
theorem mkRs_length (x y : Int) (c : Nat) : (L.mkRs x y c).length = 2 * c := by
  induction c with
  | zero => rfl
  | succ c ih => rw [mkRs_succ, List.length_append, ih]; simp [mkR]; omega
theorem mkRow_length (y : Int) (i : Nat) : (L.mkRow y i).length = i * (2 * (L.C - 1) + 2 * (L.R - 1)) := by
  induction i with
  | zero => simp [mkRow]
  | succ i ih =>
    rw [mkRow_succ, List.length_append, ih, show (L.mkCell (i * L.sw) y).length = 2 * (L.C - 1) + 2 * (L.R - 1) from by simp [mkCell, mkCs_length, mkRs_length]]
    exact (Nat.succ_mul i _).symm
theorem mkTo_length (j : Nat) : (L.mkTo j).length = j * (L.nx * (2 * (L.C - 1) + 2 * (L.R - 1))) := by
  induction j with
  | zero => simp [mkTo]
  | succ j ih =>
    rw [mkTo_succ, List.length_append, ih, mkRow_length]
    exact (Nat.succ_mul j _).symm
theorem pw_nx : L.pw = L.nx * L.sw := by unfold pw nx; split <;> omega
theorem ph_ny : L.ph = L.ny * L.sh := by unfold ph ny; split <;> omega
/-- Where a mark lies. -/
structure MkIn (m : Mk) : Prop where
  x0 : 0 ≤ m.x
  y0 : 0 ≤ m.y
  x1 : m.x + m.w ≤ L.pw
  y1 : m.y + m.h ≤ L.ph
  w1 : 1 ≤ m.w
  h1 : 1 ≤ m.h
  w2 : m.w ≤ 32
  h2 : m.h ≤ 32
  out : (∃ j : Nat, j < L.ny ∧ (m.y + m.h ≤ j * L.sh + L.margin ∧ j * L.sh ≤ m.y ∨ (j + 1) * L.sh - L.margin ≤ m.y ∧ m.y + m.h ≤ (j + 1) * L.sh)) ∨ (∃ i : Nat, i < L.nx ∧ (m.x + m.w ≤ i * L.sw + L.margin ∧ i * L.sw ≤ m.x ∨ (i + 1) * L.sw - L.margin ≤ m.x ∧ m.x + m.w ≤ (i + 1) * L.sw))
theorem cell_in {L : Lay} (hm0 : 0 < L.mn) (hm : L.margin ≤ 64) (l0 : 1 ≤ L.lw) (h0 : 1 ≤ L.lh) (c1 : 1 ≤ L.C) (r1 : 1 ≤ L.R) {i j : Nat} (hi : i < L.nx) (hj : j < L.ny) {m : Mk} (h : m ∈ L.mkCell (i * L.sw) (j * L.sh)) : L.MkIn m := by
  have ex := L.pw_nx
  have ey := L.ph_ny
  have hmn : 2 * L.mn ≤ L.margin ∧ L.margin ≤ 2 * L.mn + 1 := by unfold mn; omega
  have hsw : L.sw = 2 * L.margin + L.C * L.lw := rfl
  have hsh : L.sh = 2 * L.margin + L.R * L.lh := rfl
  have q1 : (i : Int) * L.sw + L.sw ≤ L.pw := by
    rw [ex, show (i : Int) * L.sw + L.sw = ((i : Int) + 1) * L.sw from by rw [Int.add_mul]; omega]
    exact Int.mul_le_mul_of_nonneg_right (by omega) (by have := Int.mul_nonneg (show (0 : Int) ≤ L.C by omega) (show 0 ≤ L.lw by omega); omega)
  have q2 : (j : Int) * L.sh + L.sh ≤ L.ph := by
    rw [ey, show (j : Int) * L.sh + L.sh = ((j : Int) + 1) * L.sh from by rw [Int.add_mul]; omega]
    exact Int.mul_le_mul_of_nonneg_right (by omega) (by have := Int.mul_nonneg (show (0 : Int) ≤ L.R by omega) (show 0 ≤ L.lh by omega); omega)
  have p1 : 0 ≤ (i : Int) * L.sw := Int.mul_nonneg (by omega) (by have := Int.mul_nonneg (show (0 : Int) ≤ L.C by omega) (show 0 ≤ L.lw by omega); omega)
  have p2 : 0 ≤ (j : Int) * L.sh := Int.mul_nonneg (by omega) (by have := Int.mul_nonneg (show (0 : Int) ≤ L.R by omega) (show 0 ≤ L.lh by omega); omega)
  have d1 : ((i : Int) + 1) * L.sw = (i : Int) * L.sw + L.sw := by rw [Int.add_mul]; omega
  have d2 : ((j : Int) + 1) * L.sh = (j : Int) * L.sh + L.sh := by rw [Int.add_mul]; omega
  rcases List.mem_append.1 h with h | h
  · obtain ⟨c, hc, hx⟩ := List.mem_flatMap.1 h
    have hc := List.mem_range.1 hc
    have e1 : ((c + 1 : Nat) : Int) * L.lw + L.lw ≤ L.C * L.lw := by
      rw [show ((c + 1 : Nat) : Int) * L.lw + L.lw = ((c + 2 : Nat) : Int) * L.lw from by rw [show ((c + 2 : Nat) : Int) = ((c + 1 : Nat) : Int) + 1 from by omega, Int.add_mul]; omega]
      exact Int.mul_le_mul_of_nonneg_right (by omega) (by omega)
    have e2 : 0 ≤ ((c + 1 : Nat) : Int) * L.lw := Int.mul_nonneg (by omega) (by omega)
    have e3 : 0 ≤ (L.R : Int) * L.lh := Int.mul_nonneg (by omega) (by omega)
    simp only [mkC, List.mem_cons, List.not_mem_nil, or_false] at hx
    rcases hx with rfl | rfl
    · refine ⟨?_, ?_, ?_, ?_, ?_, ?_, ?_, ?_, .inl ⟨j, hj, .inl ⟨?_, ?_⟩⟩⟩ <;> dsimp only <;> omega
    · refine ⟨?_, ?_, ?_, ?_, ?_, ?_, ?_, ?_, .inl ⟨j, hj, .inr ⟨?_, ?_⟩⟩⟩ <;> dsimp only <;> omega
  · obtain ⟨r, hr, hx⟩ := List.mem_flatMap.1 h
    have hr := List.mem_range.1 hr
    have e1 : ((r + 1 : Nat) : Int) * L.lh + L.lh ≤ L.R * L.lh := by
      rw [show ((r + 1 : Nat) : Int) * L.lh + L.lh = ((r + 2 : Nat) : Int) * L.lh from by rw [show ((r + 2 : Nat) : Int) = ((r + 1 : Nat) : Int) + 1 from by omega, Int.add_mul]; omega]
      exact Int.mul_le_mul_of_nonneg_right (by omega) (by omega)
    have e2 : 0 ≤ ((r + 1 : Nat) : Int) * L.lh := Int.mul_nonneg (by omega) (by omega)
    have e3 : 0 ≤ (L.C : Int) * L.lw := Int.mul_nonneg (by omega) (by omega)
    simp only [mkR, List.mem_cons, List.not_mem_nil, or_false] at hx
    rcases hx with rfl | rfl
    · refine ⟨?_, ?_, ?_, ?_, ?_, ?_, ?_, ?_, .inr ⟨i, hi, .inl ⟨?_, ?_⟩⟩⟩ <;> dsimp only <;> omega
    · refine ⟨?_, ?_, ?_, ?_, ?_, ?_, ?_, ?_, .inr ⟨i, hi, .inr ⟨?_, ?_⟩⟩⟩ <;> dsimp only <;> omega
theorem marks_in {L : Lay} (hm0 : 0 ≤ L.margin) (hm : L.margin ≤ 64) (l0 : 1 ≤ L.lw) (h0 : 1 ≤ L.lh) (c1 : 1 ≤ L.C) (r1 : 1 ≤ L.R) {m : Mk} (h : m ∈ L.marksL) : L.MkIn m := by
  unfold marksL at h
  split at h
  · cases h
  · rename_i hne
    have h3 : 0 < L.mn := by unfold mn at hne ⊢; omega
    obtain ⟨j, hj, hx⟩ := List.mem_flatMap.1 h
    obtain ⟨i, hi, hx⟩ := List.mem_flatMap.1 hx
    exact cell_in h3 hm l0 h0 c1 r1 (List.mem_range.1 hi) (List.mem_range.1 hj) hx
end Lay
/-- A placed page lies within the margins of its copy. -/
theorem plc_copy {L : Lay} (ok : L.Ok) {i : Nat} (hi : i < 2 * (L.C * L.R)) {p : Pg} (hc : p.col < L.C) (hr : p.row < L.R) (ht : p.turn < 4) (hp : (p.turn % 2 == 1) = L.odd) :
    ∃ a b : Nat, a < L.nx ∧ b < L.ny ∧ a * L.sw + L.margin ≤ (L.plc i p).x ∧ (L.plc i p).x + L.bw (L.plc i p).turn ≤ (a + 1) * L.sw - L.margin ∧ b * L.sh + L.margin ≤ (L.plc i p).y ∧ (L.plc i p).y + L.bh (L.plc i p).turn ≤ (b + 1) * L.sh - L.margin := by
  obtain ⟨g1, g2, g3, g4, bw, bh, w1, h1⟩ := placeB_in ok hi hp
  obtain ⟨l1, l2⟩ := lw_pos ok
  have x1 := Int.mul_nonneg (show (0 : Int) ≤ (p.col : Int) by omega) l1
  have y1 := Int.mul_nonneg (show (0 : Int) ≤ (p.row : Int) by omega) l2
  have x2 := mul_le_of_le (show ((p.col : Int) + 1) ≤ (L.C : Int) by omega) l1
  have y2 := mul_le_of_le (show ((p.row : Int) + 1) ≤ (L.R : Int) by omega) l2
  obtain ⟨t1, t2⟩ := bw_turn2 L ht
  have es : L.sw = 2 * L.margin + L.C * L.lw := rfl
  have et : L.sh = 2 * L.margin + L.R * L.lh := rfl
  have z1 : ((0 : Nat) : Int) * L.sw = 0 := by simp
  have z2 : ((0 : Nat) : Int) * L.sh = 0 := by simp
  have z3 : (((0 : Nat) : Int) + 1) * L.sw = L.sw := by simp
  have z4 : (((0 : Nat) : Int) + 1) * L.sh = L.sh := by simp
  have z5 : ((1 : Nat) : Int) * L.sw = L.sw := by simp
  have z6 : ((1 : Nat) : Int) * L.sh = L.sh := by simp
  have z7 : (((1 : Nat) : Int) + 1) * L.sw = L.sw + L.sw := by rw [Int.add_mul]; simp
  have z8 : (((1 : Nat) : Int) + 1) * L.sh = L.sh + L.sh := by rw [Int.add_mul]; simp
  unfold Lay.plc
  by_cases c1 : L.style = 1 ∧ p.back = true
  · rw [if_pos c1]
    have n1 : L.nx = 2 := by unfold Lay.nx; rw [if_pos c1.1]
    have n2 : L.ny = 1 := by unfold Lay.ny; rw [if_neg (by omega)]
    refine ⟨1, 0, by omega, by omega, ?_⟩
    rw [z2, z4, z5, z7]
    dsimp only; rw [← bw, ← bh]; omega
  · rw [if_neg c1]
    by_cases c2 : L.style = 2 ∧ p.back = true
    · rw [if_pos c2]
      have n1 : L.nx = 1 := by unfold Lay.nx; rw [if_neg (by omega)]
      have n2 : L.ny = 2 := by unfold Lay.ny; rw [if_pos c2.1]
      refine ⟨0, 1, by omega, by omega, ?_⟩
      rw [z1, z3, z6, z8]
      dsimp only; rw [t1, t2, ← bw, ← bh]; omega
    · rw [if_neg c2]
      have n1 : 0 < L.nx := by unfold Lay.nx; split <;> omega
      have n2 : 0 < L.ny := by unfold Lay.ny; split <;> omega
      refine ⟨0, 0, n1, n2, ?_⟩
      rw [z1, z3, z2, z4]
      dsimp only; rw [← bw, ← bh]; omega
theorem step_of {a b : Nat} (h : a < b) {s : Int} (hs : 0 ≤ s) : (a + 1 : Int) * s ≤ b * s := Int.mul_le_mul_of_nonneg_right (by omega) hs
theorem copy_apart {n : Nat} {s g q qw m mw : Int} (hs : 0 ≤ s) (hg : 0 ≤ g) {a b : Nat} (_ha : a < n) (h1 : a * s + g ≤ q) (h2 : q + qw ≤ (a + 1) * s - g)
    (h3 : m + mw ≤ b * s + g ∧ b * s ≤ m ∨ (b + 1) * s - g ≤ m ∧ m + mw ≤ (b + 1) * s) : m + mw ≤ q ∨ q + qw ≤ m := by
  have e1 : ((a : Int) + 1) * s = a * s + s := by rw [Int.add_mul]; omega
  have e2 : ((b : Int) + 1) * s = b * s + s := by rw [Int.add_mul]; omega
  rcases Nat.lt_trichotomy a b with h | rfl | h
  · have := step_of h hs; omega
  · omega
  · have := step_of h hs; omega
/-- No mark touches a placed page. -/
theorem mark_apart {L : Lay} (ok : L.Ok) {m : Mk} (hm : L.MkIn m) {i : Nat} (hi : i < 2 * (L.C * L.R)) {p : Pg} (hc : p.col < L.C) (hr : p.row < L.R) (ht : p.turn < 4) (hp : (p.turn % 2 == 1) = L.odd) :
    ¬ ((L.plc i p).x < m.x + m.w ∧ m.x < (L.plc i p).x + L.bw (L.plc i p).turn ∧ (L.plc i p).y < m.y + m.h ∧ m.y < (L.plc i p).y + L.bh (L.plc i p).turn) := by
  obtain ⟨a, b, ha, hb, h1, h2, h3, h4⟩ := plc_copy ok hi hc hr ht hp
  obtain ⟨l1, l2⟩ := lw_pos ok
  have m0 := ok.margin0
  have s1 : 0 ≤ L.sw := by have := Int.mul_nonneg (show (0 : Int) ≤ L.C by omega) l1; unfold Lay.sw; omega
  have s2 : 0 ≤ L.sh := by have := Int.mul_nonneg (show (0 : Int) ≤ L.R by omega) l2; unfold Lay.sh; omega
  rcases hm.out with ⟨j, hj, h⟩ | ⟨j, hj, h⟩
  · rcases copy_apart s2 m0 hb h3 h4 h with h | h <;> omega
  · rcases copy_apart s1 m0 ha h1 h2 h with h | h <;> omega
theorem marks_front {L : Lay} (ok : L.Ok) {ps : List Pg} (hps : L.Pages ps) {k : Nat} (hk : k ≤ ps.length) {m : Mk} (hm : L.MkIn m) {q : Pla} (hq : q ∈ L.frontTo ps k) :
    ¬ (q.x < m.x + m.w ∧ m.x < q.x + L.bw q.turn ∧ q.y < m.y + m.h ∧ m.y < q.y + L.bh q.turn) := by
  have hlen := hps.len
  obtain ⟨i, hi, hx⟩ := List.mem_flatMap.1 hq
  have hik : i < ps.length := by have := List.mem_range.1 hi; omega
  rw [show ps.getD i ⟨false, 0, 0, 0⟩ = ps[i] from by rw [List.getD_eq_getElem?_getD, List.getElem?_eq_getElem hik]; rfl] at hx
  split at hx
  · obtain rfl : q = L.plc i ps[i] := by simpa using hx
    obtain ⟨c1, c2, c3, c4⟩ := hps.inn _ (List.getElem_mem hik)
    exact mark_apart ok hm (by omega) c1 c2 c3 c4
  · cases hx
/-! Pictures of two colours. -/
def imgP (N : Nat) (P : Nat → Bool) : List UInt8 := (List.range N).map fun i => if P i then 255 else 0
theorem imgP_length (N : Nat) (P : Nat → Bool) : (imgP N P).length = N := by simp [imgP]
theorem imgP_get {N : Nat} (P : Nat → Bool) {i : Nat} (h : i < N) : pixN (imgP N P) i = if P i then 255 else 0 := by
  unfold pixN imgP
  rw [List.getD_eq_getElem?_getD, List.getElem?_map, List.getElem?_range h]; rfl
theorem imgP_set {N : Nat} (P : Nat → Bool) {k : Nat} (hk : k < N) : (imgP N P).set k 255 = imgP N fun i => P i || i == k := by
  apply pixN_ext (by simp [imgP_length])
  intro i hi
  rw [List.length_set, imgP_length] at hi
  rw [imgP_get _ hi]
  unfold pixN
  rw [List.getD_eq_getElem?_getD, List.getElem?_set]
  by_cases e : k = i
  · subst e; simp [imgP_length, hk]
  · rw [if_neg e]
    have := imgP_get P hi
    unfold pixN at this
    rw [List.getD_eq_getElem?_getD] at this
    rw [this]
    have : (i == k) = false := by simpa using fun h => e h.symm
    rw [this, Bool.or_false]
theorem imgP_congr {N : Nat} {P Q : Nat → Bool} (h : ∀ i, i < N → P i = Q i) : imgP N P = imgP N Q := by
  unfold imgP
  apply List.map_congr_left
  intro i hi
  rw [h i (List.mem_range.1 hi)]
theorem imgP_zero (N : Nat) : imgP N (fun _ => false) = List.replicate N 0 := by
  apply List.ext_getElem (by simp [imgP])
  intro i h1 h2
  simp [imgP]
/-- A mark has the pixel i of a plate of width W. -/
def Mk.has (W : Nat) (m : Mk) (i : Nat) : Bool := decide (m.x ≤ (i % W : Nat) ∧ ((i % W : Nat) : Int) < m.x + m.w ∧ m.y ≤ (i / W : Nat) ∧ ((i / W : Nat) : Int) < m.y + m.h)
def hasM (W : Nat) (ms : List Mk) (i : Nat) : Bool := ms.any fun m => m.has W i
def imgM (W H : Nat) (ms : List Mk) : List UInt8 := imgP (W * H) (hasM W ms)
theorem hasM_snoc (W : Nat) (ms : List Mk) (m : Mk) (i : Nat) : hasM W (ms ++ [m]) i = (hasM W ms i || m.has W i) := by
  unfold hasM; rw [List.any_append]; simp
theorem imgM_nil (W H : Nat) : imgM W H [] = List.replicate (W * H) 0 := imgP_zero _
/-- Pasting ink. -/
theorem pas_ink {W H : Nat} (ms : List Mk) {m : Mk} (_h1 : 0 ≤ m.h) :
    pasL W H (imgM W H ms) m.x m.y m.w.toNat m.h.toNat (List.replicate (m.w.toNat * m.h.toNat) 255) = imgM W H (ms ++ [m]) := by
  unfold pasL
  apply pixN_ext (by rw [pasTo_length]; simp [imgM, imgP_length])
  intro i hi
  rw [pasTo_length] at hi
  rw [pasTo_get _ _ _ _ _ _ hi]
  unfold imgM
  rw [imgP_get _ hi, imgP_get _ hi, hasM_snoc]
  unfold Mk.has
  generalize i % W = u
  generalize i / W = v
  by_cases hc : m.x ≤ (u : Nat) ∧ ((u : Nat) : Int) < m.x + m.w ∧ m.y ≤ (v : Nat) ∧ ((v : Nat) : Int) < m.y + m.h
  · rw [if_pos (by omega)]
    have : decide (m.x ≤ (u : Nat) ∧ ((u : Nat) : Int) < m.x + m.w ∧ m.y ≤ (v : Nat) ∧ ((v : Nat) : Int) < m.y + m.h) = true := by simpa using hc
    rw [this, Bool.or_true, if_pos rfl]
    unfold pixN
    have hlt : ((v : Int) - m.y).toNat * m.w.toNat + ((u : Int) - m.x).toNat < m.w.toNat * m.h.toNat := by
      have a : ((v : Int) - m.y).toNat + 1 ≤ m.h.toNat := by omega
      have b := Nat.mul_le_mul_right m.w.toNat a
      rw [Nat.succ_mul, Nat.mul_comm m.h.toNat] at b
      omega
    rw [List.getD_eq_getElem?_getD, List.getElem?_replicate, if_pos hlt]; rfl
  · rw [if_neg (by omega)]
    have : decide (m.x ≤ (u : Nat) ∧ ((u : Nat) : Int) < m.x + m.w ∧ m.y ≤ (v : Nat) ∧ ((v : Nat) : Int) < m.y + m.h) = false := by simpa using hc
    rw [this, Bool.or_false]
/-! The law's own picture: row v of the mark up to column u. -/
def Mk.hasTo (W : Nat) (m : Mk) (v u : Nat) (i : Nat) : Bool := decide (m.x ≤ (i % W : Nat) ∧ ((i % W : Nat) : Int) < m.x + m.w ∧ m.y ≤ (i / W : Nat) ∧ (((i / W : Nat) : Int) < m.y + v ∨ ((i / W : Nat) : Int) = m.y + v ∧ ((i % W : Nat) : Int) < m.x + u))
def wantTo (W H : Nat) (ms : List Mk) (m : Mk) (v u : Nat) : List UInt8 := imgP (W * H) fun i => hasM W ms i || m.hasTo W v u i
theorem wantTo_length (W H : Nat) (ms : List Mk) (m : Mk) (v u : Nat) : (wantTo W H ms m v u).length = W * H := imgP_length _ _
theorem wantTo_start (W H : Nat) (ms : List Mk) (m : Mk) : wantTo W H ms m 0 0 = imgM W H ms := by
  apply imgP_congr; intro i _
  unfold Mk.hasTo
  rw [decide_eq_false (by omega), Bool.or_false]
theorem wantTo_row (W H : Nat) (ms : List Mk) (m : Mk) (v : Nat) {u : Nat} (hu : (u : Int) = m.w) : wantTo W H ms m v u = wantTo W H ms m (v + 1) 0 := by
  apply imgP_congr; intro i _
  congr 1
  unfold Mk.hasTo
  apply decide_eq_decide.2
  omega
theorem wantTo_end (W H : Nat) (ms : List Mk) (m : Mk) {v : Nat} (hv : (v : Int) = m.h) : wantTo W H ms m v 0 = imgM W H (ms ++ [m]) := by
  apply imgP_congr; intro i _
  rw [hasM_snoc]; congr 1
  unfold Mk.hasTo Mk.has
  apply decide_eq_decide.2
  omega
theorem wantTo_step {W H : Nat} (ms : List Mk) {m : Mk} {v u : Nat} (hW : 0 < W) (x0 : 0 ≤ m.x) (y0 : 0 ≤ m.y) (x1 : m.x + m.w ≤ W) (y1 : m.y + m.h ≤ H) (hv : (v : Int) < m.h) (hu : (u : Int) < m.w) :
    (m.y.toNat + v) * W + m.x.toNat + u < W * H ∧ (wantTo W H ms m v u).set ((m.y.toNat + v) * W + m.x.toNat + u) 255 = wantTo W H ms m v (u + 1) := by
  have hlt : (m.y.toNat + v) * W + m.x.toNat + u < W * H := by
    have a : m.y.toNat + v + 1 ≤ H := by omega
    have b := Nat.mul_le_mul_right W a
    rw [Nat.succ_mul, Nat.mul_comm H] at b
    omega
  refine ⟨hlt, ?_⟩
  unfold wantTo
  rw [imgP_set _ hlt]
  apply imgP_congr; intro i hi
  rw [Bool.or_assoc]; congr 1
  have hr := row_iff (W := W) (i := i) (r := m.y.toNat + v) (a := m.x.toNat + u) (b := m.x.toNat + u + 1) hW (by omega)
  have e : (i == (m.y.toNat + v) * W + m.x.toNat + u) = decide (i / W = m.y.toNat + v ∧ i % W = m.x.toNat + u) := by
    rw [Bool.eq_iff_iff]; simp only [beq_iff_eq, decide_eq_true_iff]; omega
  rw [e]
  unfold Mk.hasTo
  generalize i % W = p
  generalize i / W = q
  rw [← Bool.decide_or]
  apply decide_eq_decide.2
  omega
end Go.Proofs.Ytjcijogdcafloaa
