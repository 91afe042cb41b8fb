/- What is known of a font without error, in plain words. -/
import Derived.Test.YtefkglmdkjkbiaaDoorFntRange
namespace Go.Proofs.YtefkglmdkjkbiaaDoor
open Fnt
namespace Fnt
structure KpOk (k : Kp) (many : Nat) : Prop where
  l0 : 0 ≤ k.l
  l1 : k.l < many
  r0 : 0 ≤ k.r
  r1 : k.r < many
  by0 : k.by_ ≠ 0
  by1 : -2047 ≤ k.by_
  by2 : k.by_ ≤ 2047
theorem far_bd {n : Int} (h : far n = false) : -2047 ≤ n ∧ n ≤ 2047 := by
  unfold far at h; simp at h; omega
theorem kp_ok {F : Font} {i : Nat} (h : kernE F i = 0) : KpOk (kp F i) F.gs.length := by
  unfold kernE at h
  split at h
  · omega
  rename_i h1
  split at h
  · omega
  rename_i h2
  simp at h1 h2
  have := far_bd h2.2
  exact ⟨h1.1, h1.2.1, h1.2.2.1, h1.2.2.2, h2.1, this.1, this.2⟩
theorem rg_order {F : Font} {i : Nat} (h : mapE F i = 0) (hi : 0 < i) : (rg F (i - 1)).hi < (rg F i).lo := by
  unfold mapE at h
  split at h
  · omega
  split at h
  · omega
  split at h
  · omega
  · rename_i h3; simp [hi] at h3; omega
theorem kp_order {F : Font} {i : Nat} (h : kernE F i = 0) (hi : 0 < i) : pairC (kp F (i - 1)) (kp F i) < 0 := by
  unfold kernE at h
  split at h
  · omega
  split at h
  · omega
  split at h
  · omega
  · rename_i h3; simp [hi] at h3; omega
structure FOk (F : Font) : Prop where
  u0 : 16 ≤ F.unit
  u1 : F.unit ≤ 1024
  n0 : 0 < F.gs.length
  n1 : F.gs.length ≤ 128
  m1 : F.map.length ≤ 64
  k1 : F.kern.length ≤ 128
  gl : ∀ i, i < F.gs.length → GlOk (gl F i) F.gs.length
  mp : ∀ i, i < F.map.length → mapE F i = 0
  kn : ∀ i, i < F.kern.length → kernE F i = 0
  ns : nestsE F = 0
theorem fok {F : Font} (h : checkE F = 0) : FOk F := by
  unfold checkE at h
  split at h
  · omega
  rename_i h1
  split at h
  · omega
  rename_i h2
  split at h
  · omega
  rename_i h3
  simp at h1 h3
  have h4 : scan (fun i => glyphE (gl F i) F.gs.length) F.gs.length = 0 := by
    split at h
    · assumption
    · exact h
  rw [if_pos h4] at h
  have h5 : tablesE F = 0 := by
    split at h
    · assumption
    · exact h
  rw [if_pos h5] at h
  unfold tablesE at h5
  have h6 : scan (mapE F) F.map.length = 0 := by
    split at h5
    · assumption
    · exact h5
  rw [if_pos h6] at h5
  exact ⟨by omega, by omega, by omega, by omega, by omega, by omega, fun i hi => glyph_ok (scan_zero.1 h4 i hi), scan_zero.1 h6, scan_zero.1 h5, h⟩
theorem FOk.rg {F : Font} (h : FOk F) : ∀ i, i < F.map.length → RgOk (rg F i) F.gs.length := fun i hi => rg_ok (h.mp i hi)
theorem btw_bd {F : Font} (h : FOk F) (a b : Int) : -2047 ≤ btw F a b ∧ btw F a b ≤ 2047 := by
  unfold btw
  split
  · rename_i h1
    simp only [Bool.and_eq_true, decide_eq_true_eq] at h1
    have := kp_ok (h.kn _ h1.1)
    exact ⟨this.by1, this.by2⟩
  · omega
theorem adv_bd {F : Font} (h : FOk F) {g : Int} (h0 : 0 ≤ g) (h1 : g < F.gs.length) : 0 ≤ adv F g ∧ adv F g ≤ 2047 := by
  have := h.gl g.toNat (by omega)
  exact ⟨this.adv0, this.adv1⟩
theorem wid_bd {F : Font} (h : FOk F) (l : List Int) (hl : ∀ j, j < l.length → 0 ≤ l.getD j 0 ∧ l.getD j 0 < F.gs.length) : ∀ i, i ≤ l.length → -4096 * (i : Int) ≤ wid F l i ∧ wid F l i ≤ 4096 * (i : Int)
  | 0, _ => by simp [wid]
  | i + 1, hi => by
    have h1 := wid_bd h l hl i (by omega)
    have h2 := hl i (by omega)
    have h3 := adv_bd h h2.1 h2.2
    simp only [wid]
    have h4 : -2047 ≤ (if i = 0 then 0 else btw F (l.getD (i - 1) 0) (l.getD i 0)) ∧ (if i = 0 then 0 else btw F (l.getD (i - 1) 0) (l.getD i 0)) ≤ 2047 := by
      split
      · omega
      · exact btw_bd h _ _
    omega
/-- The glyphs of codes. -/
def gls (F : Font) (codes : List Int) : List Int := codes.map (find F)
theorem gls_get (F : Font) (codes : List Int) {j : Nat} (hj : j < codes.length) : (gls F codes).getD j 0 = find F (codes.getD j 0) := by
  unfold gls
  rw [List.getD_eq_getElem?_getD, List.getElem?_map, List.getD_eq_getElem?_getD, List.getElem?_eq_getElem hj]; rfl
theorem gls_bd {F : Font} (h : FOk F) (codes : List Int) : ∀ j, j < (gls F codes).length → 0 ≤ (gls F codes).getD j 0 ∧ (gls F codes).getD j 0 < F.gs.length := by
  intro j hj
  have hj' : j < codes.length := by unfold gls at hj; simpa using hj
  rw [gls_get F codes hj']
  exact find_bd h.rg h.n0 _
end Fnt
end Go.Proofs.YtefkglmdkjkbiaaDoor
