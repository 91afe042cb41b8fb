/- Glyphs of codes, shifts between glyphs, and places on a line, in plain words. -/
import Derived.Test.YtefkglmdkjkbiaaDoorFntCheck
import Derived.Shelf.Spec.SearchS
namespace Go.Proofs.YtefkglmdkjkbiaaDoor
namespace Fnt
/-- The place at which a code is looked for. -/
def fIdx (F : Font) (c : Int) : Nat := Lib.bsGo (fun t => decide ((rg F t).lo < c)) F.map.length 0 F.map.length
def fHit (F : Font) (c : Int) : Bool := decide (fIdx F c < F.map.length) && decide ((rg F (fIdx F c)).lo = c)
/-- The range that may hold a code, counted from 1. -/
def fRange (F : Font) (c : Int) : Nat := if fHit F c then fIdx F c + 1 else fIdx F c
def find (F : Font) (c : Int) : Int :=
  if fRange F c = 0 then 0 else if (rg F (fRange F c - 1)).hi < c then 0 else (rg F (fRange F c - 1)).g + c - (rg F (fRange F c - 1)).lo
def bIdx (F : Font) (a b : Int) : Nat := Lib.bsGo (fun t => decide (pairC (kp F t) ⟨a, b, 0⟩ < 0)) F.kern.length 0 F.kern.length
def btw (F : Font) (a b : Int) : Int := if decide (bIdx F a b < F.kern.length) && decide (pairC (kp F (bIdx F a b)) ⟨a, b, 0⟩ = 0) then (kp F (bIdx F a b)).by_ else 0
def adv (F : Font) (g : Int) : Int := (gl F g.toNat).adv
/-- The width of the first i glyphs, with the shifts between them. -/
def wid (F : Font) (l : List Int) : Nat → Int
  | 0 => 0
  | i + 1 => wid F l i + (if i = 0 then 0 else btw F (l.getD (i - 1) 0) (l.getD i 0)) + adv F (l.getD i 0)
/-- The place of glyph i. -/
def pla (F : Font) (l : List Int) (i : Nat) : Int := wid F l i + (if i = 0 then 0 else btw F (l.getD (i - 1) 0) (l.getD i 0))
theorem wid_succ (F : Font) (l : List Int) (i : Nat) : wid F l (i + 1) = pla F l i + adv F (l.getD i 0) := rfl
theorem wid_ext (F : Font) {l m : List Int} : ∀ i, (∀ j, j < i → l.getD j 0 = m.getD j 0) → wid F l i = wid F m i
  | 0, _ => rfl
  | i + 1, h => by
    simp only [wid]
    rw [wid_ext F i fun j hj => h j (by omega), h i (by omega)]
    by_cases h0 : i = 0
    · rw [if_pos h0, if_pos h0]
    · rw [if_neg h0, if_neg h0, h (i - 1) (by omega)]
theorem getD_left (a b : List Int) (j : Nat) (h : j < a.length) : (a ++ b).getD j 0 = a.getD j 0 := by
  rw [List.getD_eq_getElem?_getD, List.getD_eq_getElem?_getD, List.getElem?_append_left h]
theorem getD_right (a b : List Int) (j : Nat) : (a ++ b).getD (a.length + j) 0 = b.getD j 0 := by
  rw [List.getD_eq_getElem?_getD, List.getD_eq_getElem?_getD, List.getElem?_append_right (by omega)]; congr 2; omega
/-- Two texts, one behind the other. -/
theorem wid_append (F : Font) (a b : List Int) (ha : a ≠ []) : ∀ k, 0 < k → wid F (a ++ b) (a.length + k) = wid F a a.length + btw F (a.getD (a.length - 1) 0) (b.getD 0 0) + wid F b k
  | 0, h => absurd h (by omega)
  | k + 1, _ => by
    have hp : 0 < a.length := by cases a with | nil => exact absurd rfl ha | cons => simp
    rw [← Nat.add_assoc]
    simp only [wid]
    rw [if_neg (by omega), getD_right]
    by_cases hk : k = 0
    · subst hk
      rw [if_pos rfl, Nat.add_zero, getD_left a b _ (by omega), wid_ext F a.length fun j hj => getD_left a b j hj]
      simp only [wid]; omega
    · have ih := wid_append F a b ha k (by omega)
      rw [if_neg hk, ih, show a.length + k - 1 = a.length + (k - 1) by omega, getD_right]
      omega
theorem pla_append (F : Font) (a b : List Int) (ha : a ≠ []) : pla F (a ++ b) a.length = wid F a a.length + btw F (a.getD (a.length - 1) 0) (b.getD 0 0) := by
  have hp : 0 < a.length := by cases a with | nil => exact absurd rfl ha | cons => simp
  unfold pla
  rw [if_neg (by omega), getD_left a b _ (by omega), wid_ext F a.length fun j hj => getD_left a b j hj]
  have := getD_right a b 0
  rw [Nat.add_zero] at this
  rw [this]
end Fnt
end Go.Proofs.YtefkglmdkjkbiaaDoor
