/- Slices of slices that grow: a glyph's contours, a font's glyphs. -/
import Derived.Test.YtefkglmdkjkbiaaDoorUpGet
import Derived.Test.YtefkglmdkjkbiaaDoorFntNst
namespace Go.Proofs.YtefkglmdkjkbiaaDoor
open Go.RowKit Fnt
/-- Nothing below R turns but the blocks of S. -/
structure FrS (R : Nat) (S : Nat → Prop) (w w' : World) : Prop where
  os : w'.os = w.os
  tape : w'.tape = w.tape
  output : w'.output = w.output
  size : w.heap.size ≤ w'.heap.size
  block : ∀ k, k < R → ¬ S k → w'.heap[k]? = w.heap[k]?
section
variable {R R' : Nat} {S S' : Nat → Prop} {a w w' c : World}
theorem FrS.refl (R : Nat) (S : Nat → Prop) (w : World) : FrS R S w w := ⟨rfl, rfl, rfl, Nat.le_refl _, fun _ _ _ => rfl⟩
theorem FrS.trans (h : FrS R S a w) (k : FrS R S w c) : FrS R S a c := ⟨k.os.trans h.os, k.tape.trans h.tape, k.output.trans h.output, Nat.le_trans h.size k.size, fun j hj hb => (k.block j hj hb).trans (h.block j hj hb)⟩
theorem FrS.weak (h : FrS R S a w) (hR : R' ≤ R) (hS : ∀ k, k < R' → S k → S' k) : FrS R' S' a w := ⟨h.os, h.tape, h.output, h.size, fun k hk hs => h.block k (by omega) fun e => hs (hS k hk e)⟩
theorem FrS.alloc (h : FrS R S a w) (hR : R ≤ w.heap.size) (o : Obj) : FrS R S a (w.alloc o) := ⟨h.os, h.tape, h.output, Nat.le_trans h.size (by simp), fun k hk hs => (Below.heap_alloc w o k (by omega)).trans (h.block k hk hs)⟩
theorem FrS.put (h : FrS R S a w) {p : Addr} (hp : R ≤ p.block ∨ S p.block) (u : Value) : FrS R S a (w.setCell p u) := by
  have h2 := (Below.refl 0 w).setCell (p := p) (Nat.zero_le _) u
  refine ⟨h2.os.trans h.os, h2.tape.trans h.tape, h2.output.trans h.output, Nat.le_trans h.size h2.size, fun k hk hs => ?_⟩
  rw [Below.heap_setCell w p u k fun e => ?_]
  · exact h.block k hk hs
  · rcases hp with hp | hp
    · omega
    · exact hs (e ▸ hp)
theorem FrS.grown {v : Value} (h : FrS R S a w) (hg : w.grownBy w' v.ownBlock) (hR : R ≤ w.heap.size) (hv : ∀ k, v.ownBlock = some k → R ≤ k ∨ S k) : FrS R S a w' :=
  h.trans ⟨hg.os, hg.tape, hg.output, hg.size, fun k hk hs => hg.block k (by omega) fun e => by
    rcases hv k e.symm with h1 | h1
    · omega
    · exact hs h1⟩
theorem FrS.of1 {b : Nat} (h : Fr1 b w w') (hb : S b) : FrS R S w w' := by
  have h1 := h.fr R
  exact ⟨h1.os, h1.tape, h1.output, h1.size, fun k hk hs => h1.block k hk fun e => hs (e ▸ hb)⟩
theorem FrS.blk {g : Nat} {t : TypeId} {cs : Array Value} (h : FrS R S w w') (hb : Blk w g t cs) (hg : g < R) (hs : ¬ S g) : Blk w' g t cs := (h.block g hg hs).trans hb
theorem FrS.below (h : FrS R S w w') {B : Nat} (hB : B ≤ R) (hS : ∀ k, S k → B ≤ k) : Below B w w' := ⟨h.os, h.tape, h.output, h.size, fun k hk => h.block k (by omega) fun e => by have := hS k e; omega⟩
theorem FrS.own {base n size : Nat} {e : TypeId} {v : Value} {xs : List Value} (h : FrS R S w w') (ho : w.ownsRow base e size v n xs) (hR : ∀ k, v.ownBlock = some k → k < R ∧ ¬ S k) : w'.ownsRow base e size v n xs := by
  rcases ho with ⟨hl, ho⟩
  refine ⟨hl, ?_⟩
  rcases ho with ho | ⟨g, cap, cur, rfl, hg, hh, r⟩
  · exact .inl ho
  · have := hR g rfl
    exact .inr ⟨g, cap, cur, rfl, hg, (h.block g this.1 this.2).trans hh, r⟩
end
theorem UpM.fr {R : Nat} {S : Nat → Prop} {w w' : World} {b : Nat} {u : Up} (h : UpM w b u) (hf : FrS R S w w') (hb : b < R) (hs : ¬ S b) : UpM w' b u := hf.blk h hb hs
/-- Contours that grow: the outer row's cells, and the points of each. -/
def ConR (w : World) (B : Nat) (cv : Value) (cs : List (List Pt)) : Prop :=
  ∃ vals : List Value, w.ownsRow B 61 1 cv cs.length vals ∧ ∀ j u, vals[j]? = some u → Pts w (fun k => some k ≠ cv.ownBlock ∧ B ≤ k) u (cs.getD j [])
theorem ConR.nil (w : World) (B : Nat) : ConR w B (.slice none 0 0) [] := ⟨[], World.ownsRow_nil _ _ _ _, fun j u h => by simp at h⟩
theorem ConR.fr {R : Nat} {S : Nat → Prop} {w w' : World} {B : Nat} {cv : Value} {cs : List (List Pt)} (h : ConR w B cv cs) (hf : FrS R S w w') (hw : w.heap.size ≤ R) (hS : ∀ k, S k → k < B) : ConR w' B cv cs := by
  obtain ⟨vals, ho, hp⟩ := h
  refine ⟨vals, hf.own ho fun k hk => ?_, fun j u hu => (hp j u hu).keep hf.size fun k hk hl => hf.block k (by omega) fun e => by have := hS k e; omega⟩
  have := own_lt ho k hk
  exact ⟨by omega, fun e => by have := hS k e; omega⟩
theorem ConR.cons {w : World} {B : Nat} {cv : Value} {cs : List (List Pt)} (h : ConR w B cv cs) : Cons w (fun k => B ≤ k) cv cs := by
  obtain ⟨vals, ho, hp⟩ := h
  have hl : vals.length = cs.length := by have := ho.1; simpa using this
  refine ⟨fun j => vals.getD j .nilIface, ?_, fun j hj => ?_⟩
  · have := (SlM.of_own ho).mono (ok' := fun k => B ≤ k) fun k _ h => h.2
    have e : (List.range cs.length).map (fun j => vals.getD j .nilIface) = vals := by
      apply List.ext_getElem?
      intro i
      rw [List.getElem?_map]
      by_cases hi : i < cs.length
      · rw [List.getElem?_range hi, List.getElem?_eq_getElem (by omega)]; simp [List.getD_eq_getElem?_getD, List.getElem?_eq_getElem (show i < vals.length by omega)]
      · rw [List.getElem?_eq_none (by simpa using hi), List.getElem?_eq_none (by omega)]; rfl
    rw [e]; exact this
  · have hu : vals[j]? = some (vals.getD j .nilIface) := by rw [List.getD_eq_getElem?_getD, List.getElem?_eq_getElem (by omega)]; rfl
    exact (hp j _ hu).mono fun k _ h => h.2
/-- One more contour. -/
theorem ConR.push {wo wr w1 : World} {B : Nat} {cv cv' u : Value} {cs : List (List Pt)} {c : List Pt} {ob : Obj} {S : Nat → Prop} {vals : List Value}
    (hp : ∀ j u, vals[j]? = some u → Pts wo (fun k => some k ≠ cv.ownBlock ∧ B ≤ k) u (cs.getD j [])) (ho : wo.ownsRow B 61 1 cv cs.length vals) (hB : B ≤ wo.heap.size)
    (hf : FrS wo.heap.size S wo wr) (hS : ∀ k, S k → k < B) (hin : Pts wr (fun k => wo.heap.size ≤ k) u c)
    (hown : w1.ownsRow B 61 1 cv' (cs.length + 1) (vals ++ [u])) (hg : (wr.alloc ob).grownBy w1 cv.ownBlock) (hk : cv'.ownBlock = cv.ownBlock ∨ cv'.ownBlock = some (wr.alloc ob).heap.size) : ConR w1 B cv' (cs ++ [c]) := by
  have hl : vals.length = cs.length := by have := ho.1; simpa using this
  have hsz := hf.size
  refine ⟨vals ++ [u], by rw [List.length_append]; exact hown, fun i x hx => ?_⟩
  have key : Pts (wr.alloc ob) (fun k => some k ≠ cv.ownBlock ∧ some k ≠ cv'.ownBlock ∧ B ≤ k) x ((cs ++ [c]).getD i []) := by
    rcases Nat.lt_or_ge i vals.length with hi | hi
    · rw [List.getElem?_append_left hi] at hx
      rw [List.getD_eq_getElem?_getD, List.getElem?_append_left (by omega), ← List.getD_eq_getElem?_getD]
      have h0 := (hp i x hx).mono (ok' := fun k => (some k ≠ cv.ownBlock ∧ B ≤ k) ∧ k < wo.heap.size) fun k hk h => ⟨h, hk⟩
      have h1 := SlM.keep h0 hf.size fun k hk hl => hf.block k (by omega) fun e => by have := hS k e; omega
      refine (SlM.alloc h1 ob).mono fun k _ ⟨h, hlt⟩ => ⟨h.1, ?_, h.2⟩
      rcases hk with e | e
      · rw [e]; exact h.1
      · rw [e]; simp; omega
    · rw [List.getElem?_append_right hi] at hx
      have hi' : i = cs.length := by
        have := (List.getElem?_eq_some_iff.1 hx).1
        simp at this; omega
      subst hi'
      rw [show cs.length - vals.length = 0 by omega] at hx
      simp at hx
      subst hx
      rw [List.getD_eq_getElem?_getD, List.getElem?_append_right (Nat.le_refl _), Nat.sub_self]
      have h0 := SlM.mono (ok' := fun k => wo.heap.size ≤ k ∧ k < wr.heap.size) hin fun k hk h => ⟨h, hk⟩
      have hne : ∀ k, wo.heap.size ≤ k → some k ≠ cv.ownBlock := fun k hk' e => by have := own_lt ho k e.symm; omega
      refine (SlM.alloc h0 ob).mono fun k _ ⟨h, hlt⟩ => ⟨hne k h, ?_, by omega⟩
      rcases hk with e | e
      · rw [e]; exact hne k h
      · rw [e]; simp; omega
  exact (SlM.grown key hg fun k h => h.1).mono fun k _ h => h.2
end Go.Proofs.YtefkglmdkjkbiaaDoor
