/- The laws' argument, a layout of folds, opened to what the walks ask. -/
import Derived.Test.YtjmanooedgfbaaaDoorChk
import Derived.Deep.Slices
import Derived.Deep.Fields
import Derived.ChangeSame
import Derived.SizedLaws
import Derived.Lib.SmallJoins
namespace Go.Proofs.YtjmanooedgfbaaaDoor
open Go.RowKit
open Go.Joins Go.ChangeShapes Go.WideShapes Go.ChangeAt Go.Deep
section
variable {H : Type} {enc : TypeId × Value → H} {P : Program} {w : World} {base : Nat} {spare : Nat → Bool} {held : Bool}
theorem open_slice_fields {t e : TypeId} {fs : Array Field} {fuel : Nat} {cs : List Value} {x : DataW H × List MemPlace} (ht : P.underlying t = some (.slice e)) (he : P.underlying e = some (.struct fs))
    (hone : oneCellFields P fs = true) (hC : P.cellsOf e = fs.size) (h : DataW.trod enc P w base spare held fuel t cs = some x) :
    (cs = [.slice none 0 0] ∧ x = (.nil, [])) ∨
    ∃ (a : Addr) (len cap m : Nat) (D : Nat → DataW H) (Pl : Nat → List MemPlace), cs = [.slice (some a) len cap] ∧ base ≤ a.block ∧ len ≤ cap ∧ cap ≤ maxLen ∧ m = (if spare a.block then cap else len) ∧
      x = (.slice ((List.range len).map D) ((List.range (m - len)).map fun j => D (len + j)), MemPlace.row a (m * fs.size) ++ (List.range m).flatMap Pl) ∧
      ∀ i, i < m → ∃ (ys : List (DataW H × List MemPlace)) (n : Nat), D i = .agg (ys.map (·.1)) ∧ Pl i = ys.flatMap (·.2) ∧ ys.length = fs.size ∧
        ∀ (j : Nat) (f : Field), fs[j]? = some f → ∃ (v : Value) (y : DataW H × List MemPlace), w.cell? (a.add (i * fs.size + j)) = some v ∧ ys[j]? = some y ∧ DataW.trod enc P w base spare held n f.type [v] = some y := by
  rcases open_slice ht h with h0 | ⟨a, len, cap, m, n, D, Pl, hcs, hb, hl, hm, hmm, hx, hi⟩
  · exact .inl h0
  · refine .inr ⟨a, len, cap, m, D, Pl, hcs, hb, hl, hm, hmm, by rw [hC] at hx; exact hx, fun i him => ?_⟩
    obtain ⟨cs', hc, ht'⟩ := hi i him
    rw [hC] at hc
    obtain ⟨ys, n', hn', hy, hlen, hyl, hf⟩ := DataW.trod_struct he ht'
    obtain ⟨_, hcl, hat⟩ := World.cells?_some hc
    simp only [Prod.mk.injEq] at hy
    refine ⟨ys, n', hy.1, hy.2, hyl, fun j f hj => ?_⟩
    obtain ⟨ho, hk⟩ := hone_of hone j f hj
    have hjl : j < fs.size := (Array.getElem?_eq_some_iff.1 hj).1
    have hcell := hat j hjl
    have hv : cs'[j]? = some (cs'[j]'(by omega)) := List.getElem?_eq_getElem (by omega)
    have h1 := hf j f hj
    rw [ho, hk] at h1
    have hone' : (cs'.drop j).take 1 = [cs'[j]'(by omega)] := by
      rw [List.drop_eq_getElem_cons (by omega)]
      rfl
    rw [hone'] at h1
    have hys : ys[j]? = some (ys[j]'(by omega)) := List.getElem?_eq_getElem (by omega)
    refine ⟨_, _, ?_, hys, h1.trans hys⟩
    rw [← Go.Deep.add_add, hcell, hv]
end
theorem scells_length (l : List Step) : (scells l).length = l.length * 3 := by
  induction l with
  | nil => rfl
  | cons x l ih => simp only [scells, List.flatMap_cons, List.length_append, List.length_cons] at ih ⊢; rw [ih]; simp [scell]; omega
theorem cells45 : Tryd.prog.cellsOf 33 = 3 := by kernel_rfl
theorem cells24 : Tryd.prog.cellsOf 24 = 3 := by kernel_rfl
theorem open_steps {H : Type} {enc : TypeId × Value → H} {W : World} {n : Nat} {v : Value} {y : DataW H × List MemPlace} (h : DataW.trod enc Tryd.prog W 0 (fun _ => true) true n 22 [v] = some y) :
    ∃ l : List Step, Sv W v l := by
  rcases open_slice_fields Tryd.underlying22 Tryd.underlying33 (by kernel_rfl) cells45 h with ⟨hc, hx⟩ | ⟨a, len, cap, m, D, Pl, hc, _, hl, hm, hmm, hx, hall⟩
  · simp only [List.cons.injEq, and_true] at hc
    subst hc
    exact ⟨[], SlM.nil _ _⟩
  · simp only [List.cons.injEq, and_true] at hc
    subst hc
    simp only [if_true] at hmm
    subst hmm
    have hone : ∀ i, i < len → ∃ f : Step, W.cell? (a.add (i * 3)) = some (.int .i64 f.side) ∧ W.cell? (a.add (i * 3 + 1)) = some (.int .i64 f.line) ∧ W.cell? (a.add (i * 3 + 2)) = some (.bool f.over) := fun i hi => by
      obtain ⟨ys, k, hD, hPl, hlen, hf⟩ := hall i (by omega)
      obtain ⟨v0, y0, c0, e0, t0⟩ := hf 0 _ rfl
      obtain ⟨v1, y1, c1, e1, t1⟩ := hf 1 _ rfl
      obtain ⟨v2, y2, c2, e2, t2⟩ := hf 2 _ rfl
      obtain ⟨z0, q0, _, _⟩ := DataW.trod_int Tryd.underlying3 t0
      obtain ⟨z1, q1, _, _⟩ := DataW.trod_int Tryd.underlying3 t1
      obtain ⟨z2, q2, _, _⟩ := DataW.trod_bool Tryd.underlying4 t2
      simp only [List.cons.injEq, and_true] at q0 q1 q2
      subst q0; subst q1; subst q2
      exact ⟨⟨z0, z1, z2⟩, c0, c1, c2⟩
    refine ⟨(List.range len).map fun i => if hi : i < len then (hone i hi).choose else step0, ?_⟩
    have hlen : ((List.range len).map fun i => if hi : i < len then (hone i hi).choose else step0).length = len := by simp
    refine ⟨some a, m, by rw [hlen], by rw [hlen]; exact hl, hm, fun hn => ?_⟩
    rw [hlen] at hn
    obtain ⟨b, off, spot⟩ := a
    have hat : ∀ i, (hi : i < len) → st ((List.range len).map fun i => if hi : i < len then (hone i hi).choose else step0) i = (hone i hi).choose := fun i hi => by
      simp only [st, List.getD_eq_getElem?_getD, List.getElem?_map, List.getElem?_range hi, Option.map_some, Option.getD_some, dif_pos hi]
    obtain ⟨f, c0, _⟩ := hone 0 hn
    have hs : spot = none := by simpa [Addr.add] using World.cell?_spot c0
    subst hs
    refine ⟨b, off, rfl, trivial, ?_, fun k u hu => ?_⟩
    · rcases Nat.lt_or_ge b W.heap.size with h1 | h1
      · exact h1
      · rw [add_plain] at c0
        simp [World.cell?, Array.getElem?_eq_none h1] at c0
    · have hk : k < len * 3 := by
        have := (List.getElem?_eq_some_iff.1 hu).1
        rw [scells_length, hlen] at this; exact this
      have hi : k / 3 < len := by omega
      have hkk : k = k / 3 * 3 + k % 3 := by omega
      have hj : k % 3 < 3 := Nat.mod_lt _ (by omega)
      rw [hkk, scells_at _ _ _ (by rw [hlen]; exact hi) hj, hat _ hi] at hu
      obtain ⟨p0, p1, p2⟩ := (hone _ hi).choose_spec
      generalize (hone (k / 3) hi).choose = f at p0 p1 p2 hu
      rw [add_plain] at p0 p1 p2
      generalize k / 3 = i at *
      generalize k % 3 = j at *
      rw [hkk]
      match j, hj, hu with
      | 0, _, hu => have := Option.some.inj hu; subst this; exact p0
      | 1, _, hu => have := Option.some.inj hu; subst this; exact p1
      | 2, _, hu => have := Option.some.inj hu; subst this; exact p2
set_option maxRecDepth 100000 in
theorem open_scheme {H : Type} {enc : TypeId × Value → H} {W : World} {base : Nat} {v : Value} {d : DataW H} {p : List MemPlace} (hv : Value.okWide Tryd.prog W .any base 24 v) (h : DataW.Trod enc Tryd.prog W 0 (fun _ => true) true 24 v d p) :
    ∃ (C R : Int) (vs : Value) (l : List Step), v = .agg #[.int .i64 C, .int .i64 R, vs] ∧ Sv W vs l := by
  obtain ⟨v0, v1, v2, y0, y1, y2, n, rfl, _, _, t0, t1, t2⟩ := open_agg3 Tryd.underlying24 (by kernel_rfl) cells24 hv h
  obtain ⟨z0, c0, _, _⟩ := DataW.trod_int Tryd.underlying3 t0
  obtain ⟨z1, c1, _, _⟩ := DataW.trod_int Tryd.underlying3 t1
  obtain ⟨l, hl⟩ := open_steps t2
  simp only [List.cons.injEq, and_true] at c0 c1
  subst c0; subst c1
  exact ⟨z0, z1, v2, l, rfl, hl⟩
end Go.Proofs.YtjmanooedgfbaaaDoor
