/- The laws' argument, a font, opened to what the walks ask. -/
import Derived.Test.YtefkglmdkjkbiaaDoorFntMem
import Derived.Deep.Slices
import Derived.Deep.Fields
import Derived.ChangeSame
import Derived.SizedLaws
import Derived.Lib.SmallJoins
namespace Go.Proofs.YtefkglmdkjkbiaaDoor
open Go.RowKit Fnt
open Go.Joins Go.ChangeShapes Go.WideShapes Go.ChangeAt Go.Deep
theorem choose_list {α : Type} (d : α) : ∀ (n : Nat) (G : Nat → α → Prop), (∀ i, i < n → ∃ x, G i x) → ∃ l : List α, l.length = n ∧ ∀ i, i < n → G i (l.getD i d)
  | 0, _, _ => ⟨[], rfl, fun i h => absurd h (by omega)⟩
  | n + 1, G, h => by
    obtain ⟨l, hl, hg⟩ := choose_list d n G fun i hi => h i (by omega)
    obtain ⟨x, hx⟩ := h n (by omega)
    refine ⟨l ++ [x], by simp [hl], fun i hi => ?_⟩
    rw [List.getD_eq_getElem?_getD]
    rcases Nat.lt_or_ge i n with h1 | h1
    · rw [List.getElem?_append_left (by omega), ← List.getD_eq_getElem?_getD]; exact hg i h1
    · obtain rfl : i = n := by omega
      rw [List.getElem?_append_right (by omega), hl, Nat.sub_self]; exact hx
theorem slm_list {W : World} {α : Type} {f : α → List Value} {m : Nat} (hf : ∀ a, (f a).length = m) (hm0 : 0 < m) (d : α) (l : List α) (a : Addr) (cap : Nat) (hl : l.length ≤ cap) (hm : cap ≤ maxLen)
    (hc : ∀ i, i < l.length → ∀ j u, (f (l.getD i d))[j]? = some u → W.cell? (a.add (i * m + j)) = some u) : SlM W (fun _ => True) (.slice (some a) l.length cap) l.length (l.flatMap f) := by
  refine ⟨_, cap, rfl, hl, hm, fun hn => ?_⟩
  have h0 := hc 0 hn 0 _ (List.getElem?_eq_getElem (by rw [hf]; exact hm0))
  obtain ⟨b, off, spot⟩ := a
  have hs : spot = none := by simpa [Addr.add] using World.cell?_spot h0
  subst hs
  refine ⟨b, off, rfl, trivial, ?_, fun k u hu => ?_⟩
  · rcases Nat.lt_or_ge b W.heap.size with h1 | h1
    · exact h1
    · rw [add_plain] at h0
      simp [World.cell?, Array.getElem?_eq_none h1] at h0
  · have hk : k < l.length * m := by
      have := (List.getElem?_eq_some_iff.1 hu).1
      rwa [flat_length hf] at this
    have hi : k / m < l.length := (Nat.div_lt_iff_lt_mul hm0).2 hk
    have hkk : k = k / m * m + k % m := by rw [Nat.mul_comm]; exact (Nat.div_add_mod k m).symm
    rw [hkk, flat_at hf d _ _ _ hi (Nat.mod_lt _ hm0)] at hu
    have := hc (k / m) hi (k % m) u hu
    rw [← hkk, add_plain] at this
    exact this
section
variable {H : Type} {enc : TypeId × Value → H} {P : Program} {w : World} {base : Nat} {spare : Nat → Bool} {held : Bool}
theorem open_slice_fields {t e : TypeId} {fs : Array Field} {fuel : Nat} {cs : List Value} {x : DataW H × List MemPlace} (ht : P.underlying t = some (.slice e)) (he : P.underlying e = some (.struct fs))
    (hone : oneCellFields P fs = true) (hC : P.cellsOf e = fs.size) (h : DataW.trod enc P w base spare held fuel t cs = some x) :
    (cs = [.slice none 0 0] ∧ x = (.nil, [])) ∨
    ∃ (a : Addr) (len cap m : Nat) (D : Nat → DataW H) (Pl : Nat → List MemPlace), cs = [.slice (some a) len cap] ∧ base ≤ a.block ∧ len ≤ cap ∧ cap ≤ maxLen ∧ m = (if spare a.block then cap else len) ∧
      x = (.slice ((List.range len).map D) ((List.range (m - len)).map fun j => D (len + j)), MemPlace.row a (m * fs.size) ++ (List.range m).flatMap Pl) ∧
      ∀ i, i < m → ∃ (ys : List (DataW H × List MemPlace)) (n : Nat), D i = .agg (ys.map (·.1)) ∧ Pl i = ys.flatMap (·.2) ∧ ys.length = fs.size ∧
        ∀ (j : Nat) (f : Field), fs[j]? = some f → ∃ (v : Value) (y : DataW H × List MemPlace), w.cell? (a.add (i * fs.size + j)) = some v ∧ ys[j]? = some y ∧ DataW.trod enc P w base spare held n f.type [v] = some y := by
  rcases open_slice ht h with h0 | ⟨a, len, cap, m, n, D, Pl, hcs, hb, hl, hm, hmm, hx, hi⟩
  · exact .inl h0
  · refine .inr ⟨a, len, cap, m, D, Pl, hcs, hb, hl, hm, hmm, by rw [hC] at hx; exact hx, fun i him => ?_⟩
    obtain ⟨cs', hc, ht'⟩ := hi i him
    rw [hC] at hc
    obtain ⟨ys, n', hn', hy, hlen, hyl, hf⟩ := DataW.trod_struct he ht'
    obtain ⟨_, hcl, hat⟩ := World.cells?_some hc
    simp only [Prod.mk.injEq] at hy
    refine ⟨ys, n', hy.1, hy.2, hyl, fun j f hj => ?_⟩
    obtain ⟨ho, hk⟩ := hone_of hone j f hj
    have hjl : j < fs.size := (Array.getElem?_eq_some_iff.1 hj).1
    have hcell := hat j hjl
    have hv : cs'[j]? = some (cs'[j]'(by omega)) := List.getElem?_eq_getElem (by omega)
    have h1 := hf j f hj
    rw [ho, hk] at h1
    have hone' : (cs'.drop j).take 1 = [cs'[j]'(by omega)] := by
      rw [List.drop_eq_getElem_cons (by omega)]
      rfl
    rw [hone'] at h1
    have hys : ys[j]? = some (ys[j]'(by omega)) := List.getElem?_eq_getElem (by omega)
    refine ⟨_, _, ?_, hys, h1.trans hys⟩
    rw [← Go.Deep.add_add, hcell, hv]
/-- A slice of structs of three fields. -/
theorem open_three {α : Type} (d : α) (f : α → List Value) (hf : ∀ a, (f a).length = 3) {t e t0 t1 t2 : TypeId} {fs : Array Field} {fuel : Nat} {v : Value} {x : DataW H × List MemPlace} (ht : P.underlying t = some (.slice e)) (he : P.underlying e = some (.struct fs)) (h3 : fs.map (·.type) = #[t0, t1, t2])
    (hone : oneCellFields P fs = true) (hC : P.cellsOf e = 3) (h : DataW.trod enc P w base (fun _ => true) held fuel t [v] = some x) (G : α → Prop)
    (hmk : ∀ v0 v1 v2 y0 y1 y2 n, DataW.trod enc P w base (fun _ => true) held n t0 [v0] = some y0 → DataW.trod enc P w base (fun _ => true) held n t1 [v1] = some y1 → DataW.trod enc P w base (fun _ => true) held n t2 [v2] = some y2 → ∃ a, f a = [v0, v1, v2] ∧ G a) :
    ∃ l : List α, SlM w (fun _ => True) v l.length (l.flatMap f) ∧ ∀ i, i < l.length → G (l.getD i d) := by
  have hs : fs.size = 3 := by have := congrArg Array.size h3; simpa using this
  rcases open_slice_fields ht he hone (by rw [hC, hs]) h with ⟨hc, hx⟩ | ⟨a, len, cap, m, D, Pl, hc, _, hl, hm, hmm, hx, hall⟩
  · simp only [List.cons.injEq, and_true] at hc
    subst hc
    exact ⟨[], SlM.nil _ _, fun i hi => absurd hi (by simp)⟩
  · simp only [List.cons.injEq, and_true] at hc
    subst hc
    simp only [if_true] at hmm
    subst hmm
    have hft : ∀ (i : Nat) (q : TypeId), (#[t0, t1, t2] : Array TypeId)[i]? = some q → ∃ g : Field, fs[i]? = some g ∧ g.type = q := fun i q e => by
      rw [← h3, Array.getElem?_map] at e
      cases hfi : fs[i]? with
      | none => rw [hfi] at e; cases e
      | some g => rw [hfi] at e; injection e with e; exact ⟨g, rfl, e⟩
    obtain ⟨l, hll, hg⟩ := choose_list d len (fun i b => G b ∧ ∀ j u, (f b)[j]? = some u → w.cell? (a.add (i * 3 + j)) = some u) fun i hi => by
      obtain ⟨ys, n, _, _, _, hfs⟩ := hall i (by omega)
      obtain ⟨g0, hg0, e0⟩ := hft 0 t0 rfl
      obtain ⟨g1, hg1, e1⟩ := hft 1 t1 rfl
      obtain ⟨g2, hg2, e2⟩ := hft 2 t2 rfl
      obtain ⟨v0, y0, c0, _, r0⟩ := hfs 0 g0 hg0
      obtain ⟨v1, y1, c1, _, r1⟩ := hfs 1 g1 hg1
      obtain ⟨v2, y2, c2, _, r2⟩ := hfs 2 g2 hg2
      rw [e0] at r0; rw [e1] at r1; rw [e2] at r2
      rw [hs] at c0 c1 c2
      obtain ⟨b, hb, hG⟩ := hmk v0 v1 v2 y0 y1 y2 n r0 r1 r2
      refine ⟨b, hG, fun j u hu => ?_⟩
      rw [hb] at hu
      match j, hu with
      | 0, hu => have := Option.some.inj hu; subst this; exact c0
      | 1, hu => have := Option.some.inj hu; subst this; exact c1
      | 2, hu => have := Option.some.inj hu; subst this; exact c2
    subst hll
    exact ⟨l, slm_list hf (by omega) d l a _ hl hm fun i hi => (hg i hi).2, fun i hi => (hg i hi).1⟩
end
section
variable {H : Type} {enc : TypeId × Value → H} {W : World} {n : Nat} {v : Value} {y : DataW H × List MemPlace}
theorem cellsP : Tryd.prog.cellsOf 64 = 3 := by kernel_rfl
theorem cellsA : Tryd.prog.cellsOf 103 = 3 := by kernel_rfl
theorem cellsR : Tryd.prog.cellsOf 49 = 3 := by kernel_rfl
theorem cellsK : Tryd.prog.cellsOf 35 = 3 := by kernel_rfl
theorem cellsG : Tryd.prog.cellsOf 84 = 3 := by kernel_rfl
theorem cellsF : Tryd.prog.cellsOf 26 = 4 := by kernel_rfl
theorem cellsL : Tryd.prog.cellsOf 61 = 1 := by kernel_rfl
theorem open_pts (h : DataW.trod enc Tryd.prog W 0 (fun _ => true) true n 61 [v] = some y) : ∃ l : List Pt, Pts W (fun _ => True) v l := by
  obtain ⟨l, hl, _⟩ := open_three default ptc (fun _ => rfl) Tryd.underlying61 Tryd.underlying64 (by kernel_rfl) (by kernel_rfl) cellsP h (fun _ => True) (by
    intro v0 v1 v2 y0 y1 y2 k r0 r1 r2
    obtain ⟨z0, q0, _, _⟩ := DataW.trod_int Tryd.underlying3 r0
    obtain ⟨z1, q1, _, _⟩ := DataW.trod_int Tryd.underlying3 r1
    obtain ⟨z2, q2, _, _⟩ := DataW.trod_bool Tryd.underlying4 r2
    simp only [List.cons.injEq, and_true] at q0 q1 q2
    subst q0; subst q1; subst q2
    exact ⟨⟨z0, z1, z2⟩, rfl, trivial⟩)
  exact ⟨l, hl⟩
theorem open_pas (h : DataW.trod enc Tryd.prog W 0 (fun _ => true) true n 82 [v] = some y) : ∃ l : List Part, Pas W (fun _ => True) v l := by
  obtain ⟨l, hl, _⟩ := open_three default pac (fun _ => rfl) Tryd.underlying82 Tryd.underlying103 (by kernel_rfl) (by kernel_rfl) cellsA h (fun _ => True) (by
    intro v0 v1 v2 y0 y1 y2 k r0 r1 r2
    obtain ⟨z0, q0, _, _⟩ := DataW.trod_int Tryd.underlying3 r0
    obtain ⟨z1, q1, _, _⟩ := DataW.trod_int Tryd.underlying3 r1
    obtain ⟨z2, q2, _, _⟩ := DataW.trod_int Tryd.underlying3 r2
    simp only [List.cons.injEq, and_true] at q0 q1 q2
    subst q0; subst q1; subst q2
    exact ⟨⟨z0, z1, z2⟩, rfl, trivial⟩)
  exact ⟨l, hl⟩
theorem open_rgs (h : DataW.trod enc Tryd.prog W 0 (fun _ => true) true n 23 [v] = some y) : ∃ l : List Rg, SlM W (fun _ => True) v l.length (l.flatMap rgc) := by
  obtain ⟨l, hl, _⟩ := open_three default rgc (fun _ => rfl) Tryd.underlying23 Tryd.underlying49 (by kernel_rfl) (by kernel_rfl) cellsR h (fun _ => True) (by
    intro v0 v1 v2 y0 y1 y2 k r0 r1 r2
    obtain ⟨z0, q0, _, _⟩ := DataW.trod_int Tryd.underlying3 r0
    obtain ⟨z1, q1, _, _⟩ := DataW.trod_int Tryd.underlying3 r1
    obtain ⟨z2, q2, _, _⟩ := DataW.trod_int Tryd.underlying3 r2
    simp only [List.cons.injEq, and_true] at q0 q1 q2
    subst q0; subst q1; subst q2
    exact ⟨⟨z0, z1, z2⟩, rfl, trivial⟩)
  exact ⟨l, hl⟩
theorem open_kps (h : DataW.trod enc Tryd.prog W 0 (fun _ => true) true n 24 [v] = some y) : ∃ l : List Kp, SlM W (fun _ => True) v l.length (l.flatMap kpc) := by
  obtain ⟨l, hl, _⟩ := open_three default kpc (fun _ => rfl) Tryd.underlying24 Tryd.underlying35 (by kernel_rfl) (by kernel_rfl) cellsK h (fun _ => True) (by
    intro v0 v1 v2 y0 y1 y2 k r0 r1 r2
    obtain ⟨z0, q0, _, _⟩ := DataW.trod_int Tryd.underlying3 r0
    obtain ⟨z1, q1, _, _⟩ := DataW.trod_int Tryd.underlying3 r1
    obtain ⟨z2, q2, _, _⟩ := DataW.trod_int Tryd.underlying3 r2
    simp only [List.cons.injEq, and_true] at q0 q1 q2
    subst q0; subst q1; subst q2
    exact ⟨⟨z0, z1, z2⟩, rfl, trivial⟩)
  exact ⟨l, hl⟩
theorem map_flat {α β : Type} (l : List α) (f : α → β) : l.map f = l.flatMap (fun b => [f b]) := by
  induction l with
  | nil => rfl
  | cons a l ih => rw [List.map_cons, List.flatMap_cons, ih]; rfl
theorem range_map {α β : Type} (l : List α) (d : α) (f : α → β) : (List.range l.length).map (fun i => f (l.getD i d)) = l.map f := by
  apply List.ext_getElem?
  intro i
  rw [List.getElem?_map, List.getElem?_map]
  by_cases hi : i < l.length
  · rw [List.getElem?_range hi, List.getElem?_eq_getElem hi]; simp [List.getD_eq_getElem?_getD, List.getElem?_eq_getElem hi]
  · rw [List.getElem?_eq_none (by simpa using hi), List.getElem?_eq_none (by omega)]; rfl
theorem open_cons (h : DataW.trod enc Tryd.prog W 0 (fun _ => true) true n 57 [v] = some y) : ∃ cs : List (List Pt), Cons W (fun _ => True) v cs := by
  rcases open_slice Tryd.underlying57 h with ⟨hc, hx⟩ | ⟨a, len, cap, m, k, D, Pl, hc, _, hl, hm, hmm, hx, hall⟩
  · simp only [List.cons.injEq, and_true] at hc
    subst hc
    exact ⟨[], fun _ => .nilIface, SlM.nil _ _, fun i hi => absurd hi (by simp)⟩
  · simp only [List.cons.injEq, and_true] at hc
    subst hc
    simp only [if_true] at hmm
    subst hmm
    rw [cellsL] at hall
    obtain ⟨l, hll, hg⟩ := choose_list ((Value.nilIface, []) : Value × List Pt) len (fun i b => W.cell? (a.add i) = some b.1 ∧ Pts W (fun _ => True) b.1 b.2) fun i hi => by
      obtain ⟨cs', h1, h2⟩ := hall i (by omega)
      obtain ⟨_, hlen, hcell⟩ := World.cells?_some h1
      match cs', hlen with
      | [c], _ =>
        obtain ⟨p, hp⟩ := open_pts h2
        have := hcell 0 (by omega)
        exact ⟨(c, p), by simpa [Addr.add] using this, hp⟩
    subst hll
    refine ⟨l.map (·.2), fun i => (l.getD i (Value.nilIface, [])).1, ?_, fun i hi => ?_⟩
    · rw [List.length_map]
      have := slm_list (W := W) (f := fun b : Value × List Pt => [b.1]) (m := 1) (fun _ => rfl) (by omega) (Value.nilIface, []) l a _ hl hm fun i hi j u hu => by
        match j, hu with
        | 0, hu => have := Option.some.inj hu; subst this; rw [Nat.mul_one, Nat.add_zero]; exact (hg i hi).1
      rw [range_map l (Value.nilIface, []) (·.1)]
      rw [show l.map (·.1) = l.flatMap (fun b => [b.1]) from (map_flat l _)]
      exact this
    · rw [List.length_map] at hi
      have := (hg i hi).2
      rw [List.getD_eq_getElem?_getD, List.getElem?_eq_getElem hi] at this
      show Pts W _ (l.getD i (Value.nilIface, [])).1 _
      rw [List.getD_eq_getElem?_getD (l := l), List.getD_eq_getElem?_getD, List.getElem?_map, List.getElem?_eq_getElem hi]
      exact this
theorem open_gls (h : DataW.trod enc Tryd.prog W 0 (fun _ => true) true n 22 [v] = some y) : ∃ gs : List Gl, Gls W (fun _ => True) v gs := by
  obtain ⟨l, hl, hg⟩ := open_three ((default : Gl), Value.nilIface, Value.nilIface) (fun b : Gl × Value × Value => [.int .i64 b.1.adv, b.2.1, b.2.2]) (fun _ => rfl) Tryd.underlying22 Tryd.underlying84 (by kernel_rfl) (by kernel_rfl) cellsG h
    (fun b => Cons W (fun _ => True) b.2.1 b.1.cs ∧ Pas W (fun _ => True) b.2.2 b.1.ps) (by
    intro v0 v1 v2 y0 y1 y2 k r0 r1 r2
    obtain ⟨z0, q0, _, _⟩ := DataW.trod_int Tryd.underlying3 r0
    obtain ⟨cs, hcs⟩ := open_cons r1
    obtain ⟨ps, hps⟩ := open_pas r2
    simp only [List.cons.injEq, and_true] at q0
    subst q0
    exact ⟨(⟨z0, cs, ps⟩, v1, v2), rfl, hcs, hps⟩)
  refine ⟨l.map (·.1), fun i => (l.getD i (default, Value.nilIface, Value.nilIface)).2, ?_, fun i hi => ?_⟩
  · rw [List.length_map]
    have e : (List.range l.length).flatMap (glc (l.map (·.1)) fun i => (l.getD i (default, Value.nilIface, Value.nilIface)).2) = l.flatMap fun b => [.int .i64 b.1.adv, b.2.1, b.2.2] := by
      rw [List.flatMap_def, List.flatMap_def, ← range_map l (default, Value.nilIface, Value.nilIface) fun b => [.int .i64 b.1.adv, b.2.1, b.2.2]]
      congr 1
      apply List.map_congr_left
      intro i hi
      have hi' : i < l.length := by simpa using hi
      unfold glc
      simp only [List.getD_eq_getElem?_getD, List.getElem?_map, List.getElem?_eq_getElem hi', Option.map_some, Option.getD_some]
    rw [e]; exact hl
  · rw [List.length_map] at hi
    have h1 := hg i hi
    rw [List.getD_eq_getElem?_getD, List.getElem?_eq_getElem hi] at h1
    show Cons W _ (l.getD i (default, Value.nilIface, Value.nilIface)).2.1 _ ∧ Pas W _ (l.getD i (default, Value.nilIface, Value.nilIface)).2.2 _
    rw [List.getD_eq_getElem?_getD (l := l), List.getD_eq_getElem?_getD, List.getElem?_map, List.getElem?_eq_getElem hi]
    exact h1
end
set_option maxRecDepth 100000 in
theorem open_font {H : Type} {enc : TypeId × Value → H} {W : World} {base : Nat} {v : Value} {d : DataW H} {p : List MemPlace} (hv : Value.okWide Tryd.prog W .any base 26 v) (h : DataW.Trod enc Tryd.prog W 0 (fun _ => true) true 26 v d p) :
    ∃ F : Font, FntV W (fun _ => True) v F := by
  obtain ⟨v0, v1, v2, v3, y0, y1, y2, y3, n, rfl, _, _, t0, t1, t2, t3⟩ := open_agg4 Tryd.underlying26 (by kernel_rfl) cellsF hv h
  obtain ⟨z0, c0, _, _⟩ := DataW.trod_int Tryd.underlying3 t0
  obtain ⟨gs, hg⟩ := open_gls t1
  obtain ⟨ms, hm⟩ := open_rgs t2
  obtain ⟨ks, hk⟩ := open_kps t3
  simp only [List.cons.injEq, and_true] at c0
  subst c0
  exact ⟨⟨z0, gs, ms, ks⟩, v1, v2, v3, rfl, hg, hm, hk⟩
end Go.Proofs.YtefkglmdkjkbiaaDoor
