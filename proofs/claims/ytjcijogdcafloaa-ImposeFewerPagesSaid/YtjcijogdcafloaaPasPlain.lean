/- Pasting a raster on a raster, row by row: plain Lean. No program is in sight here. -/
import Derived.Test.YtjcijogdcafloaaImpPlain
namespace Go.Proofs.Ytjcijogdcafloaa
def pixN (l : List UInt8) (i : Nat) : UInt8 := l.getD i 0
theorem pixN_ext {a b : List UInt8} (hl : a.length = b.length) (h : ∀ i, i < a.length → pixN a i = pixN b i) : a = b := by
  apply List.ext_getElem hl
  intro i h1 h2
  have := h i h1
  unfold pixN at this
  rw [List.getD_eq_getElem?_getD, List.getD_eq_getElem?_getD, List.getElem?_eq_getElem h1, List.getElem?_eq_getElem h2] at this
  exact this
/-- A segment of a list replaced. -/
def spl (l : List UInt8) (a : Nat) (s : List UInt8) : List UInt8 := l.take a ++ s ++ l.drop (a + s.length)
theorem spl_length {l s : List UInt8} {a : Nat} (h : a + s.length ≤ l.length) : (spl l a s).length = l.length := by
  unfold spl; simp only [List.length_append, List.length_take, List.length_drop]; omega
theorem spl_get {l s : List UInt8} {a : Nat} (h : a + s.length ≤ l.length) (i : Nat) : pixN (spl l a s) i = if a ≤ i ∧ i < a + s.length then pixN s (i - a) else pixN l i := by
  unfold spl pixN
  simp only [List.getD_eq_getElem?_getD]
  by_cases h1 : i < a
  · rw [if_neg (by omega), List.append_assoc, List.getElem?_append_left (by rw [List.length_take]; omega), List.getElem?_take_of_lt h1]
  · by_cases h2 : i < a + s.length
    · rw [if_pos ⟨by omega, h2⟩, List.getElem?_append_left (by rw [List.length_append, List.length_take]; omega), List.getElem?_append_right (by rw [List.length_take]; omega), List.length_take, Nat.min_eq_left (by omega)]
    · rw [if_neg (by omega), List.getElem?_append_right (by rw [List.length_append, List.length_take]; omega), List.length_append, List.length_take, Nat.min_eq_left (by omega), List.getElem?_drop]
      congr 2; omega
/-- A place of a row by its number. -/
theorem row_iff {W i r a b : Nat} (hW : 0 < W) (hb : b ≤ W) : (r * W + a ≤ i ∧ i < r * W + b) ↔ (i / W = r ∧ a ≤ i % W ∧ i % W < b) := by
  have h1 := Nat.div_add_mod i W
  have h2 := Nat.mod_lt i hW
  constructor
  · rintro ⟨h3, h4⟩
    have e : i / W = r := by
      apply Nat.div_eq_of_lt_le
      · omega
      · rw [Nat.succ_mul]; omega
    rw [e, Nat.mul_comm] at h1
    exact ⟨e, by omega, by omega⟩
  · rintro ⟨rfl, h3, h4⟩
    rw [Nat.mul_comm] at h1
    exact ⟨by omega, by omega⟩
/-- The raster after the rows of p below row j. -/
def pasTo (W H : Nat) (g : List UInt8) (x y : Int) (pW : Nat) (p : List UInt8) (j : Int) : List UInt8 := (List.range (W * H)).map fun i =>
  if x ≤ (i % W : Nat) ∧ ((i % W : Nat) : Int) < x + pW ∧ y ≤ (i / W : Nat) ∧ ((i / W : Nat) : Int) < y + j then pixN p (((i / W : Nat) - y).toNat * pW + ((i % W : Nat) - x).toNat) else pixN g i
theorem pasTo_length (W H : Nat) (g : List UInt8) (x y : Int) (pW : Nat) (p : List UInt8) (j : Int) : (pasTo W H g x y pW p j).length = W * H := by simp [pasTo]
theorem pasTo_get {W H : Nat} (g : List UInt8) (x y : Int) (pW : Nat) (p : List UInt8) (j : Int) {i : Nat} (h : i < W * H) : pixN (pasTo W H g x y pW p j) i =
    if x ≤ (i % W : Nat) ∧ ((i % W : Nat) : Int) < x + pW ∧ y ≤ (i / W : Nat) ∧ ((i / W : Nat) : Int) < y + j then pixN p (((i / W : Nat) - y).toNat * pW + ((i % W : Nat) - x).toNat) else pixN g i := by
  unfold pixN pasTo
  rw [List.getD_eq_getElem?_getD, List.getElem?_map, List.getElem?_range h]; rfl
/-- Nothing is pasted yet. -/
theorem pasTo_start {W H : Nat} {g : List UInt8} (hg : g.length = W * H) (x y : Int) (pW : Nat) (p : List UInt8) {j : Int} (hj : j = max 0 (-y)) : pasTo W H g x y pW p j = g := by
  apply pixN_ext (by rw [pasTo_length, hg])
  intro i hi
  rw [pasTo_length] at hi
  rw [pasTo_get _ _ _ _ _ _ hi, if_neg]
  rintro ⟨_, _, h3, h4⟩
  generalize i / W = v at h3 h4
  omega
/-- The next row. -/
theorem pasTo_step {W H pW pH : Nat} {g p : List UInt8} (_hg : g.length = W * H) (hp : p.length = pW * pH) (hW : 0 < W) {x y : Int} {j : Nat} (hj : j < pH) (h0 : 0 ≤ y + j) (h1 : y + j < H) {f t : Nat} (hf : (f : Int) = max 0 (-x)) (ht : (t : Int) = min (pW : Int) (W - x)) (hft : f < t) :
    pasTo W H g x y pW p ((j : Int) + 1) = spl (pasTo W H g x y pW p j) ((y + j).toNat * W + (x + f).toNat) ((p.drop (j * pW + f)).take (t - f)) := by
  have hr : (y + j).toNat < H := by omega
  have hjl : j * pW + t ≤ p.length := by
    rw [hp]
    have : (j + 1) * pW ≤ pH * pW := Nat.mul_le_mul_right pW hj
    rw [Nat.succ_mul, Nat.mul_comm pH] at this; omega
  have hsl : ((p.drop (j * pW + f)).take (t - f)).length = t - f := by rw [List.length_take, List.length_drop]; omega
  have hfit : (y + j).toNat * W + (x + f).toNat + (t - f) ≤ W * H := by
    have : ((y + j).toNat + 1) * W ≤ H * W := Nat.mul_le_mul_right W hr
    rw [Nat.succ_mul, Nat.mul_comm H] at this; omega
  apply pixN_ext (by rw [spl_length (by rw [hsl, pasTo_length]; exact hfit), pasTo_length, pasTo_length])
  intro i hi
  rw [pasTo_length] at hi
  rw [spl_get (by rw [hsl, pasTo_length]; exact hfit), hsl, pasTo_get _ _ _ _ _ _ hi, pasTo_get _ _ _ _ _ _ hi]
  have hri := row_iff (W := W) (i := i) (r := (y + j).toNat) (a := (x + f).toNat) (b := (x + f).toNat + (t - f)) hW (by omega)
  by_cases hc : (y + j).toNat * W + (x + f).toNat ≤ i ∧ i < (y + j).toNat * W + (x + f).toNat + (t - f)
  · rw [if_pos hc]
    obtain ⟨e1, e2, e3⟩ := hri.1 (by omega)
    have hm := Nat.div_add_mod i W
    rw [e1, Nat.mul_comm] at hm
    rw [e1]
    generalize hu : i % W = u at e2 e3 hm
    rw [if_pos (by omega)]
    have e4 : ((((y + j).toNat : Nat) : Int) - y).toNat = j := by omega
    rw [e4]
    generalize (y + j).toNat * W = q at hc hm
    generalize hq2 : j * pW = q2 at hjl
    unfold pixN
    rw [List.getD_eq_getElem?_getD, List.getD_eq_getElem?_getD, List.getElem?_take_of_lt (by omega), List.getElem?_drop]
    congr 2
    omega
  · rw [if_neg hc]
    have hlt := Nat.mod_lt i hW
    have hri2 := fun h => hc (by have := hri.2 h; omega)
    clear hri
    generalize i % W = u at *
    generalize i / W = v at *
    by_cases h4 : x ≤ (u : Nat) ∧ ((u : Nat) : Int) < x + pW ∧ y ≤ (v : Nat) ∧ ((v : Nat) : Int) < y + j
    · rw [if_pos h4, if_pos (by omega)]
    · rw [if_neg h4, if_neg]
      rintro ⟨a1, a2, a3, a4⟩
      exact hri2 ⟨by omega, by omega, by omega⟩
/-- A row that has nothing in the raster. -/
theorem pasTo_skip {W H pW : Nat} {g p : List UInt8} (hW : 0 < W) {x y : Int} {j : Nat} (hft : ¬ (max 0 (-x) < min (pW : Int) (W - x))) : pasTo W H g x y pW p ((j : Int) + 1) = pasTo W H g x y pW p j := by
  apply pixN_ext (by rw [pasTo_length, pasTo_length])
  intro i hi
  rw [pasTo_length] at hi
  rw [pasTo_get _ _ _ _ _ _ hi, pasTo_get _ _ _ _ _ _ hi, if_neg, if_neg]
  · rintro ⟨a1, a2, _, _⟩; have := Nat.mod_lt i hW; generalize i % W = u at *; omega
  · rintro ⟨a1, a2, _, _⟩; have := Nat.mod_lt i hW; generalize i % W = u at *; omega
/-- The raster with another one pasted on it. -/
def pasL (W H : Nat) (g : List UInt8) (x y : Int) (pW pH : Nat) (p : List UInt8) : List UInt8 := pasTo W H g x y pW p pH
/-- Where no row is left. -/
theorem pasTo_end {W H pW pH : Nat} {g p : List UInt8} {x y : Int} {j : Int} (hle : j ≤ pH) (hj : j = pH ∨ H ≤ y + j) : pasTo W H g x y pW p j = pasL W H g x y pW pH p := by
  rcases hj with rfl | h3
  · rfl
  · unfold pasL
    apply pixN_ext (by rw [pasTo_length, pasTo_length])
    intro i hi
    rw [pasTo_length] at hi
    have h5 : i / W < H := Nat.div_lt_of_lt_mul hi
    rw [pasTo_get _ _ _ _ _ _ hi, pasTo_get _ _ _ _ _ _ hi]
    generalize i / W = v at h5
    by_cases h4 : x ≤ (i % W : Nat) ∧ ((i % W : Nat) : Int) < x + pW ∧ y ≤ (v : Nat)
    · rw [if_pos ⟨h4.1, h4.2.1, h4.2.2, by omega⟩, if_pos ⟨h4.1, h4.2.1, h4.2.2, by omega⟩]
    · rw [if_neg (fun h => h4 ⟨h.1, h.2.1, h.2.2.1⟩), if_neg (fun h => h4 ⟨h.1, h.2.1, h.2.2.1⟩)]
end Go.Proofs.Ytjcijogdcafloaa
