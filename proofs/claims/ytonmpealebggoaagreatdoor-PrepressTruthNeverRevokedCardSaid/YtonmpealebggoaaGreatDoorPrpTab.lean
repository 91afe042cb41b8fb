/- The laws' arguments opened to what the walks ask: terms, conditions, rules, facts, the library's tables. The library's tables and errors, as the laws' rows lay them. A law's rule and its facts, opened to what the walks ask. -/
import Derived.Test.YtonmpealebggoaaGreatDoorPrpLvl
import Derived.Test.YtonmpealebggoaaGreatDoorPrpNum
import Derived.Test.YtonmpealebggoaaGreatDoorClose
import Derived.Deep.Slices
import Derived.Deep.Fields
import Derived.Deep.Strs
import Derived.ChangeSame
import Derived.SizedLaws
import Derived.LaidSub
import Derived.Shelf.Vars
import Derived.Test.YtonmpealebggoaaGreatDoorRows
namespace Go.Proofs.YtonmpealebggoaaGreatDoor
open Go.RowKit Pr
open Go.Joins Go.ChangeShapes Go.WideShapes Go.ChangeAt Go.Deep
theorem choose_list {α : Type} (d : α) : ∀ (n : Nat) (G : Nat → α → Prop), (∀ i, i < n → ∃ x, G i x) → ∃ l : List α, l.length = n ∧ ∀ i, i < n → G i (l.getD i d)
  | 0, _, _ => ⟨[], rfl, fun i h => absurd h (by omega)⟩
  | n + 1, G, h => by
    obtain ⟨l, hl, hg⟩ := choose_list d n G fun i hi => h i (by omega)
    obtain ⟨x, hx⟩ := h n (by omega)
    refine ⟨l ++ [x], by simp [hl], fun i hi => ?_⟩
    rw [List.getD_eq_getElem?_getD]
    rcases Nat.lt_or_ge i n with h1 | h1
    · rw [List.getElem?_append_left (by omega), ← List.getD_eq_getElem?_getD]; exact hg i h1
    · obtain rfl : i = n := by omega
      rw [List.getElem?_append_right (by omega), hl, Nat.sub_self]; exact hx
theorem slm_list {W : World} {α : Type} {f : α → List Value} {m : Nat} (hf : ∀ a, (f a).length = m) (hm0 : 0 < m) (d : α) (l : List α) (a : Addr) (cap : Nat) (hl : l.length ≤ cap) (hm : cap ≤ maxLen)
    (hc : ∀ i, i < l.length → ∀ j u, (f (l.getD i d))[j]? = some u → W.cell? (a.add (i * m + j)) = some u) : SlM W (fun _ => True) (.slice (some a) l.length cap) l.length (l.flatMap f) := by
  refine ⟨_, cap, rfl, hl, hm, fun hn => ?_⟩
  have h0 := hc 0 hn 0 _ (List.getElem?_eq_getElem (by rw [hf]; exact hm0))
  obtain ⟨b, off, spot⟩ := a
  have hs : spot = none := by simpa [Addr.add] using World.cell?_spot h0
  subst hs
  refine ⟨b, off, rfl, trivial, ?_, fun k u hu => ?_⟩
  · rcases Nat.lt_or_ge b W.heap.size with h1 | h1
    · exact h1
    · rw [add_plain] at h0
      simp [World.cell?, Array.getElem?_eq_none h1] at h0
  · have hk : k < l.length * m := by
      have := (List.getElem?_eq_some_iff.1 hu).1
      rwa [flat_length hf] at this
    have hi : k / m < l.length := (Nat.div_lt_iff_lt_mul hm0).2 hk
    have hkk : k = k / m * m + k % m := by rw [Nat.mul_comm]; exact (Nat.div_add_mod k m).symm
    rw [hkk, flat_at hf d _ _ _ hi (Nat.mod_lt _ hm0)] at hu
    have := hc (k / m) hi (k % m) u hu
    rw [← hkk, add_plain] at this
    exact this
theorem i64_of {z : Int} (h : (Lit.int .i64 z).wf = true) : I64 z := by
  unfold Lit.wf at h
  simp only [Bool.and_eq_true, decide_eq_true_eq] at h
  exact h
theorem cellsTm : Tryz.prog.cellsOf 80 = 2 := by kernel_rfl
theorem cellsCd : Tryz.prog.cellsOf 25 = 5 := by kernel_rfl
theorem cellsRl : Tryz.prog.cellsOf 27 = 6 := by kernel_rfl
section
variable {H : Type} {enc : TypeId × Value → H} {W : World}
theorem open_struct5 {P : Program} {e t0 t1 t2 t3 t4 : TypeId} {fs : Array Field} {d : DataW H} {pl : List MemPlace} {cs : List Value} {n : Nat} (he : P.underlying e = some (.struct fs)) (h5 : fs.map (·.type) = #[t0, t1, t2, t3, t4])
    (hone : oneCellFields P fs = true) (hC : P.cellsOf e = 5) (h : DataW.trod enc P W 0 (fun _ => true) true n e cs = some (d, pl)) :
    ∃ (v0 v1 v2 v3 v4 : Value) (y0 y1 y2 y3 y4 : DataW H × List MemPlace) (k : Nat), cs = [v0, v1, v2, v3, v4] ∧ d = .agg [y0.1, y1.1, y2.1, y3.1, y4.1] ∧
      DataW.trod enc P W 0 (fun _ => true) true k t0 [v0] = some y0 ∧ DataW.trod enc P W 0 (fun _ => true) true k t1 [v1] = some y1 ∧ DataW.trod enc P W 0 (fun _ => true) true k t2 [v2] = some y2 ∧
      DataW.trod enc P W 0 (fun _ => true) true k t3 [v3] = some y3 ∧ DataW.trod enc P W 0 (fun _ => true) true k t4 [v4] = some y4 := by
  have hs : fs.size = 5 := by have := congrArg Array.size h5; simpa using this
  have hft : ∀ (i : Nat) (q : TypeId), (#[t0, t1, t2, t3, t4] : Array TypeId)[i]? = some q → ∃ g : Field, fs[i]? = some g ∧ g.type = q := fun i q e => by
    rw [← h5, Array.getElem?_map] at e
    cases hfi : fs[i]? with
    | none => rw [hfi] at e; cases e
    | some g => rw [hfi] at e; injection e with e; exact ⟨g, rfl, e⟩
  obtain ⟨ys, n', hn', hy, hlen, hyl, hf⟩ := DataW.trod_struct he h
  simp only [Prod.mk.injEq] at hy
  rw [hC] at hlen
  rw [hs] at hyl
  match cs, hlen with
  | [v0, v1, v2, v3, v4], _ =>
    match ys, hyl with
    | [y0, y1, y2, y3, y4], _ =>
      have key : ∀ (j : Nat) (q : TypeId) (v : Value) (y : DataW H × List MemPlace), (#[t0, t1, t2, t3, t4] : Array TypeId)[j]? = some q → [v0, v1, v2, v3, v4][j]? = some v → [y0, y1, y2, y3, y4][j]? = some y → DataW.trod enc P W 0 (fun _ => true) true n' q [v] = some y := by
        intro j q v y hq hv hyj
        obtain ⟨f, hj, rfl⟩ := hft j q hq
        obtain ⟨ho, hk⟩ := hone_of hone j f hj
        have h1 := hf j f hj
        rw [ho, hk] at h1
        obtain ⟨hjl, e⟩ := List.getElem?_eq_some_iff.1 hv
        have hone' : ([v0, v1, v2, v3, v4].drop j).take 1 = [v] := by
          rw [List.drop_eq_getElem_cons hjl, e]
          rfl
        rw [hone'] at h1
        exact h1.trans hyj
      exact ⟨v0, v1, v2, v3, v4, y0, y1, y2, y3, y4, n', rfl, hy.1, key 0 _ _ _ rfl rfl rfl, key 1 _ _ _ rfl rfl rfl, key 2 _ _ _ rfl rfl rfl, key 3 _ _ _ rfl rfl rfl, key 4 _ _ _ rfl rfl rfl⟩
theorem open_struct2 {P : Program} {e t0 t1 : TypeId} {fs : Array Field} {d : DataW H} {pl : List MemPlace} {cs : List Value} {n : Nat} (he : P.underlying e = some (.struct fs)) (h5 : fs.map (·.type) = #[t0, t1])
    (hone : oneCellFields P fs = true) (hC : P.cellsOf e = 2) (h : DataW.trod enc P W 0 (fun _ => true) true n e cs = some (d, pl)) :
    ∃ (v0 v1 : Value) (y0 y1 : DataW H × List MemPlace) (k : Nat), cs = [v0, v1] ∧ d = .agg [y0.1, y1.1] ∧
      DataW.trod enc P W 0 (fun _ => true) true k t0 [v0] = some y0 ∧ DataW.trod enc P W 0 (fun _ => true) true k t1 [v1] = some y1 := by
  have hs : fs.size = 2 := by have := congrArg Array.size h5; simpa using this
  have hft : ∀ (i : Nat) (q : TypeId), (#[t0, t1] : Array TypeId)[i]? = some q → ∃ g : Field, fs[i]? = some g ∧ g.type = q := fun i q e => by
    rw [← h5, Array.getElem?_map] at e
    cases hfi : fs[i]? with
    | none => rw [hfi] at e; cases e
    | some g => rw [hfi] at e; injection e with e; exact ⟨g, rfl, e⟩
  obtain ⟨ys, n', hn', hy, hlen, hyl, hf⟩ := DataW.trod_struct he h
  simp only [Prod.mk.injEq] at hy
  rw [hC] at hlen
  rw [hs] at hyl
  match cs, hlen with
  | [v0, v1], _ =>
    match ys, hyl with
    | [y0, y1], _ =>
      have key : ∀ (j : Nat) (q : TypeId) (v : Value) (y : DataW H × List MemPlace), (#[t0, t1] : Array TypeId)[j]? = some q → [v0, v1][j]? = some v → [y0, y1][j]? = some y → DataW.trod enc P W 0 (fun _ => true) true n' q [v] = some y := by
        intro j q v y hq hv hyj
        obtain ⟨f, hj, rfl⟩ := hft j q hq
        obtain ⟨ho, hk⟩ := hone_of hone j f hj
        have h1 := hf j f hj
        rw [ho, hk] at h1
        obtain ⟨hjl, e⟩ := List.getElem?_eq_some_iff.1 hv
        have hone' : ([v0, v1].drop j).take 1 = [v] := by
          rw [List.drop_eq_getElem_cons hjl, e]
          rfl
        rw [hone'] at h1
        exact h1.trans hyj
      exact ⟨v0, v1, y0, y1, n', rfl, hy.1, key 0 _ _ _ rfl rfl rfl, key 1 _ _ _ rfl rfl rfl⟩
theorem open_terms {n : Nat} {v : Value} {y : DataW H × List MemPlace} (h : DataW.trod enc Tryz.prog W 0 (fun _ => true) true n 22 [v] = some y) :
    ∃ ts : List Tm, SlM W (fun _ => True) v ts.length (tcells ts) ∧ ∀ t ∈ ts, t.2.length ≤ maxLen := by
  rcases open_slice Tryz.underlying22 h with ⟨hc, hx⟩ | ⟨a, len, cap, mm, k, D, Pl, hc, _, hl, hmx, hmm, hx, hall⟩
  · simp only [List.cons.injEq, and_true] at hc
    subst hc
    exact ⟨[], SlM.nil _ _, fun t ht => by cases ht⟩
  · simp only [List.cons.injEq, and_true] at hc
    subst hc
    simp only [if_true] at hmm
    subst hmm
    obtain ⟨l, hll, hg⟩ := choose_list tm0 len (fun i b => b.2.length ≤ maxLen ∧ ∀ j u, (tcell b)[j]? = some u → W.cell? (a.add (i * 2 + j)) = some u) fun i hi => by
      obtain ⟨cs', hcc, ht'⟩ := hall i (by omega)
      rw [cellsTm] at hcc
      obtain ⟨_, hcl, hat⟩ := World.cells?_some hcc
      obtain ⟨v0, v1, y0, y1, k', rfl, -, r0, r1⟩ := open_struct2 Tryz.underlying80 (t0 := 3) (t1 := 9) (by kernel_rfl) (by kernel_rfl) cellsTm ht'
      obtain ⟨z0, q0, _, _⟩ := DataW.trod_int Tryz.underlying3 r0
      obtain ⟨S, q1, _, hz⟩ := DataW.trod_string Tryz.underlying9 r1
      simp only [List.cons.injEq, and_true] at q0 q1
      subst q0; subst q1
      refine ⟨(z0, S.data.toList), by simpa using hz, fun j u hu => ?_⟩
      have hj : j < 2 := by have := (List.getElem?_eq_some_iff.1 hu).1; simpa [tcell] using this
      have := hat j hj
      rw [← Go.Deep.add_add, this]
      exact hu
    subst hll
    refine ⟨l, slm_list tlen (by omega) tm0 l a _ hl hmx fun i hi => (hg i hi).2, fun t ht => ?_⟩
    obtain ⟨i, hi, rfl⟩ := List.getElem_of_mem ht
    have := (hg i hi).1
    rw [List.getD_eq_getElem?_getD, List.getElem?_eq_getElem hi] at this
    exact this
theorem open_fields {d : DataW H} {pl : List MemPlace} {cs : List Value} {n : Nat} (h : DataW.trod enc Tryz.prog W 0 (fun _ => true) true n 25 cs = some (d, pl))
    (hk : ∀ (y : DataW H × List MemPlace) (k : Nat) (v : Value), SizeOf.sizeOf y.1 < SizeOf.sizeOf d → DataW.trod enc Tryz.prog W 0 (fun _ => true) true k 23 [v] = some y →
      ∃ (vs : List V5) (os : List Cd), SlM W (fun _ => True) v os.length (v5cs vs) ∧ vs.length = os.length ∧ ∀ j (h : j < os.length) (h2 : j < vs.length), CdV (fun _ => True) W vs[j] os[j]) :
    ∃ (v : V5) (o : Cd), cs = v.cells ∧ CdV (fun _ => True) W v o := by
  obtain ⟨v0, v1, v2, v3, v4, y0, y1, y2, y3, y4, k, rfl, rfl, r0, r1, r2, r3, r4⟩ := open_struct5 Tryz.underlying25 (t0 := 3) (t1 := 22) (t2 := 3) (t3 := 3) (t4 := 23) (by kernel_rfl) (by kernel_rfl) cellsCd h
  obtain ⟨z0, q0, _, hw⟩ := DataW.trod_int Tryz.underlying3 r0
  obtain ⟨ts, hts, hz⟩ := open_terms r1
  obtain ⟨z2, q2, _, _⟩ := DataW.trod_int Tryz.underlying3 r2
  obtain ⟨z3, q3, _, _⟩ := DataW.trod_int Tryz.underlying3 r3
  obtain ⟨vs, os, h1, h2, h3⟩ := hk y4 k v4 (by simp; omega) r4
  simp only [List.cons.injEq, and_true] at q0 q2 q3
  subst q0; subst q2; subst q3
  exact ⟨⟨_, v1, _, _, v4⟩, _, rfl, CdV.mk z0 ts z2 z3 os v1 v4 vs hts h1 h2 h3 hz (i64_of hw)⟩
theorem open_kids : ∀ (m : Nat) (y : DataW H × List MemPlace) (n : Nat) (v : Value), SizeOf.sizeOf y.1 < m → DataW.trod enc Tryz.prog W 0 (fun _ => true) true n 23 [v] = some y →
      ∃ (vs : List V5) (os : List Cd), SlM W (fun _ => True) v os.length (v5cs vs) ∧ vs.length = os.length ∧ ∀ j (h : j < os.length) (h2 : j < vs.length), CdV (fun _ => True) W vs[j] os[j]
  | 0, y, n, v, hm, h => by omega
  | m + 1, y, n, v, hm, h => by
    rcases open_slice Tryz.underlying23 h with ⟨hc, hx⟩ | ⟨a, len, cap, mm, k, D, Pl, hc, _, hl, hmx, hmm, hx, hall⟩
    · simp only [List.cons.injEq, and_true] at hc
      subst hc
      exact ⟨[], [], SlM.nil _ _, rfl, fun j h => absurd h (by simp)⟩
    · simp only [List.cons.injEq, and_true] at hc
      subst hc
      simp only [if_true] at hmm
      subst hmm
      obtain ⟨l, hll, hg⟩ := choose_list ((⟨.nilIface, .nilIface, .nilIface, .nilIface, .nilIface⟩ : V5), cd0) len (fun i b => CdV (fun _ => True) W b.1 b.2 ∧ ∀ j u, b.1.cells[j]? = some u → W.cell? (a.add (i * 5 + j)) = some u) fun i hi => by
        obtain ⟨cs', hcc, ht'⟩ := hall i (by omega)
        rw [cellsCd] at hcc
        obtain ⟨_, hcl, hat⟩ := World.cells?_some hcc
        have hsz : SizeOf.sizeOf (D i) < m := by
          have h1 : D i ∈ (List.range len).map D := List.mem_map.2 ⟨i, List.mem_range.2 hi, rfl⟩
          have h2 := List.sizeOf_lt_of_mem h1
          subst hx
          simp at hm h2 ⊢
          omega
        obtain ⟨v, o, e, ho⟩ := open_fields ht' fun y k v hy => open_kids m y k v (by omega)
        refine ⟨(v, o), ho, fun j u hu => ?_⟩
        have hj : j < 5 := by have := (List.getElem?_eq_some_iff.1 hu).1; simpa [V5.cells] using this
        have := hat j hj
        rw [← Go.Deep.add_add, this, e]
        exact hu
      subst hll
      refine ⟨l.map (·.1), l.map (·.2), ?_, by simp, fun j h1 h2 => ?_⟩
      · have := slm_list (W := W) (f := fun b : V5 × Cd => b.1.cells) (m := 5) (fun _ => rfl) (by omega) _ l a _ hl hmx fun i hi => (hg i hi).2
        rw [List.length_map]
        unfold v5cs
        rw [List.flatMap_map]
        exact this
      · have hj : j < l.length := by simpa using h1
        have := (hg j hj).1
        rw [List.getD_eq_getElem?_getD, List.getElem?_eq_getElem hj] at this
        simpa using this
set_option maxRecDepth 100000 in
theorem open_cond {base : Nat} {v : Value} {d : DataW H} {p : List MemPlace} (hv : Value.okWide Tryz.prog W .any base 25 v) (h : DataW.Trod enc Tryz.prog W 0 (fun _ => true) true 25 v d p) :
    ∃ (u : V5) (o : Cd), v = u.val ∧ CdV (fun _ => True) W u o := by
  obtain ⟨n, hn⟩ := h
  obtain ⟨cs, rfl, _⟩ := okWide_struct Tryz.underlying25 hv
  obtain ⟨u, o, e, ho⟩ := open_fields hn fun y k v hy => open_kids _ y k v hy
  refine ⟨u, o, ?_, ho⟩
  have e2 : cs.toList = [u.k, u.t, u.c, u.n, u.d] := e
  have e3 : cs = #[u.k, u.t, u.c, u.n, u.d] := by
    cases cs with
    | mk l => simp at e2; rw [e2]
  rw [e3]
  rfl
theorem fieldsRl : ∃ fs : Array Field, Tryz.prog.underlying 27 = some (.struct fs) ∧ (fs.map fun f => (f.type, f.offset)) = #[(9, 0), (25, 1)] := ⟨_, Tryz.underlying27, by kernel_rfl⟩
set_option maxRecDepth 100000 in
/-- A rule's six cells. -/
theorem open_rcells {x : DataW H × List MemPlace} {cs : List Value} {n : Nat} (h : DataW.trod enc Tryz.prog W 0 (fun _ => true) true n 27 cs = some x) :
    ∃ (r : Rl) (u : V5), cs = rcell (r, u) ∧ CdV (fun _ => True) W u r.2 ∧ r.1.length ≤ maxLen := by
  obtain ⟨fs, hu, hfs⟩ := fieldsRl
  obtain ⟨xs, n, _, hx, hcl, hlen, hg⟩ := DataW.trod_struct hu h
  rw [cellsRl] at hcl
  have hs2 : fs.size = 2 := by have := congrArg Array.size hfs; simpa using this
  have hfi : ∀ (i : Nat) (t o : Nat), (#[(9, 0), (25, 1)] : Array (TypeId × Nat))[i]? = some (t, o) → ∃ f : Field, fs[i]? = some f ∧ f.type = t ∧ f.offset = o := fun i t o e => by
    rw [← hfs, Array.getElem?_map] at e
    cases hfi : fs[i]? with
    | none => rw [hfi] at e; cases e
    | some f => rw [hfi] at e; injection e with e; injection e with e1 e2; exact ⟨f, rfl, e1, e2⟩
  have hxi : ∀ i, i < 2 → ∃ y, xs[i]? = some y := fun i hi => ⟨xs[i]'(by omega), List.getElem?_eq_getElem (by omega)⟩
  match cs, hcl with
  | [c0, c1, c2, c3, c4, c5], _ =>
    obtain ⟨f0, hf0, ht0, ho0⟩ := hfi 0 _ _ rfl
    obtain ⟨y0, hy0⟩ := hxi 0 (by omega)
    have h0 := hg 0 f0 hf0
    rw [ht0, ho0, hy0, show Tryz.prog.cellsOf 9 = 1 by kernel_rfl] at h0
    obtain ⟨S, q0, _, hz⟩ := DataW.trod_string Tryz.underlying9 (by simpa using h0)
    obtain ⟨f1, hf1, ht1, ho1⟩ := hfi 1 _ _ rfl
    obtain ⟨⟨y1, p1⟩, hy1⟩ := hxi 1 (by omega)
    have h1 := hg 1 f1 hf1
    rw [ht1, ho1, hy1, cellsCd] at h1
    obtain ⟨u, o, e, ho⟩ := open_fields (d := y1) (pl := p1) (by simpa using h1) fun y k v hy => open_kids _ y k v hy
    simp only [List.cons.injEq, and_true] at q0
    subst q0
    have e2 : [c1, c2, c3, c4, c5] = u.cells := by simpa using e
    exact ⟨(S.data.toList, o), u, by show _ :: [c1, c2, c3, c4, c5] = _; rw [e2]; rfl, ho, by simpa using hz⟩
set_option maxRecDepth 100000 in
theorem open_rules {base : Nat} {v : Value} {d : DataW H} {p : List MemPlace} (hv : Value.okWide Tryz.prog W .any base 40 v) (h : DataW.Trod enc Tryz.prog W 0 (fun _ => true) true 40 v d p) :
    ∃ l : List Rl, RlsV (fun _ => True) W v l := by
  obtain ⟨a0, len0, cap0, rfl⟩ := Go.WideShapes.okWide_slice Tryz.underlying40 hv
  obtain ⟨n, hn⟩ := h
  have hn' : DataW.trod enc Tryz.prog W 0 (fun _ => true) true n 40 [.slice a0 len0 cap0] = some (d, p) := by simpa [Value.cells] using hn
  generalize Value.slice a0 len0 cap0 = v at hn'
  rcases open_slice Tryz.underlying40 hn' with ⟨hc, hx⟩ | ⟨a, len, cap, mm, k, D, Pl, hc, _, hl, hmx, hmm, hx, hall⟩
  · simp only [List.cons.injEq, and_true] at hc
    subst hc
    exact ⟨[], [], rfl, SlM.nil _ _, fun j h => absurd h (by simp), fun r hr => by cases hr⟩
  · simp only [List.cons.injEq, and_true] at hc
    subst hc
    simp only [if_true] at hmm
    subst hmm
    obtain ⟨l, hll, hg⟩ := choose_list ((rl0, ⟨.nilIface, .nilIface, .nilIface, .nilIface, .nilIface⟩) : Rl × V5) len (fun i b => (CdV (fun _ => True) W b.2 b.1.2 ∧ b.1.1.length ≤ maxLen) ∧ ∀ j u, (rcell b)[j]? = some u → W.cell? (a.add (i * 6 + j)) = some u) fun i hi => by
      obtain ⟨cs', hcc, ht'⟩ := hall i (by omega)
      rw [cellsRl] at hcc
      obtain ⟨_, hcl, hat⟩ := World.cells?_some hcc
      obtain ⟨r, u, e, ho, hz⟩ := open_rcells ht'
      refine ⟨(r, u), ⟨ho, hz⟩, fun j w hw => ?_⟩
      have hj : j < 6 := by have := (List.getElem?_eq_some_iff.1 hw).1; simpa [rcell, V5.cells] using this
      have := hat j hj
      rw [← Go.Deep.add_add, this, e]
      exact hw
    subst hll
    have hat : ∀ j (h : j < l.length), CdV (fun _ => True) W l[j].2 l[j].1.2 ∧ l[j].1.1.length ≤ maxLen := fun j h => by
      have := (hg j h).1
      rw [List.getD_eq_getElem?_getD, List.getElem?_eq_getElem h] at this
      exact this
    refine ⟨l.map (·.1), l.map (·.2), by simp, ?_, fun j h1 h2 => ?_, fun r hr => ?_⟩
    · have := slm_list (W := W) rlen (by omega) _ l a _ hl hmx fun i hi => (hg i hi).2
      rw [List.length_map, List.zip_map', show (l.map fun x => (x.1, x.2)) = l by simp]
      exact this
    · have hj : j < l.length := by simpa using h1
      simpa using (hat j hj).1
    · obtain ⟨x, hx, rfl⟩ := List.mem_map.1 hr
      obtain ⟨i, hi, rfl⟩ := List.getElem_of_mem hx
      exact (hat i hi).2
end
end Go.Proofs.YtonmpealebggoaaGreatDoor
namespace Go.Proofs.YtonmpealebggoaaGreatDoor
open Go.RowKit Pr
open Go.Joins Go.ChangeShapes Go.WideShapes Go.ChangeAt Go.Deep
theorem gTab : Tryz.prog.globalNamed "internal/strconv.uint64pow10" = some 5 := by kernel_rfl
theorem gTabType : (Tryz.prog.globals[5]?).map (·.type) = some 186 := by kernel_rfl
theorem cellsA : Tryz.prog.cellsOf 186 = 20 := by kernel_rfl
theorem cellsU : Tryz.prog.cellsOf 121 = 1 := by kernel_rfl
theorem gRg : Tryz.prog.globalNamed "strconv.ErrRange" = some 2 := by kernel_rfl
theorem gRgType : (Tryz.prog.globals[2]?).map (·.type) = some 104 := by kernel_rfl
theorem gSx : Tryz.prog.globalNamed "strconv.ErrSyntax" = some 1 := by kernel_rfl
theorem gSxType : (Tryz.prog.globals[1]?).map (·.type) = some 104 := by kernel_rfl
theorem mx_of {W : World} (hshape : W.ShapedOpen Tryz.prog) : ∃ m, W.cell? ⟨0, 0, none⟩ = some (.int .i64 m) :=
  cell_of_shapedOpen_int (P := Tryz.prog) (g := 0) (t := 3) (zero := #[.int .i64 0]) hshape (of_decide_eq_true (by kernel_rfl)) (by kernel_rfl) rfl (by kernel_rfl) (by kernel_rfl) Tryz.underlying3
theorem table {W : World} (h : laidMet Tryz.prog Rows.prepressNotExchangesRow.laid W) : Lib.TabIs Tryz.prog W "internal/strconv.uint64pow10" .u64 Lib.pow10Tab := by
  have h2 := laidMet.filter (fun x => x.1 == "internal/strconv.uint64pow10") h
  exact Lib.tabIs_of_head (rest := []) gTab gTabType Tryz.underlying186 Tryz.underlying121 cellsU cellsA h2
theorem trod_some {P : Program} {H : Type} {enc : TypeId × Value → H} {W : World} {base : Nat} {sp : Nat → Bool} {held : Bool} {fuel : Nat} {t : TypeId} {cs : List Value} {n : String} {d : DataW H} {p : List MemPlace} {m : Array (String × TypeId)} (hu : P.underlying t = some (.interface m)) (h : DataW.trod enc P W base sp held fuel t cs = some (.iface n d, p)) :
    ∃ u v, cs = [.iface u v] := by
  cases fuel with
  | zero => simp [DataW.trod] at h
  | succ n =>
    unfold DataW.trod at h
    rw [hu] at h
    split at h <;> simp_all
theorem err_sx {W : World} (h : laidMet Tryz.prog Rows.prepressNotExchangesRow.laid W) : ∃ t p, W.cell? ⟨1, 0, none⟩ = some (.iface t p) := by
  have h2 := laidMet.filter (fun x => x.1 == "strconv.ErrSyntax") h
  obtain ⟨ps, ⟨g, t, cs, f, p, q, hg, ht, hv, hd, _⟩, _⟩ := h2
  obtain rfl := Option.some.inj (gSx.symm.trans hg)
  obtain rfl := Option.some.inj (gSxType.symm.trans ht)
  have hc := World.var?_cell hg hv 0
  obtain ⟨u, v, e⟩ := trod_some Tryz.underlying104 hd
  have e0 : cs[0]? = some (.iface u v) := by rw [← Array.getElem?_toList, e]; rfl
  rw [e0] at hc
  exact ⟨u, v, hc⟩
theorem err_rg {W : World} (h : laidMet Tryz.prog Rows.prepressNotExchangesRow.laid W) : ∃ t p, W.cell? ⟨2, 0, none⟩ = some (.iface t p) := by
  have h2 := laidMet.filter (fun x => x.1 == "strconv.ErrRange") h
  obtain ⟨ps, ⟨g, t, cs, f, p, q, hg, ht, hv, hd, _⟩, _⟩ := h2
  obtain rfl := Option.some.inj (gRg.symm.trans hg)
  obtain rfl := Option.some.inj (gRgType.symm.trans ht)
  have hc := World.var?_cell hg hv 0
  obtain ⟨u, v, e⟩ := trod_some Tryz.underlying104 hd
  have e0 : cs[0]? = some (.iface u v) := by rw [← Array.getElem?_toList, e]; rfl
  rw [e0] at hc
  exact ⟨u, v, hc⟩
theorem tabs {W : World} (h : laidMet Tryz.prog Rows.prepressNotExchangesRow.laid W) (hshape : W.ShapedOpen Tryz.prog) : Tabs W ∧ ErrT W := by
  obtain ⟨m, hm⟩ := mx_of hshape
  have hz : ∀ {b : Nat} {u : Value}, W.cell? ⟨b, 0, none⟩ = some u → b < W.heap.size := fun {b u} hc => by
    rcases Nat.lt_or_ge b W.heap.size with h1 | h1
    · exact h1
    · simp [World.cell?, Array.getElem?_eq_none h1] at hc
  refine ⟨⟨table h, ⟨m, hm⟩, hz hm⟩, err_sx h, err_rg h, ?_⟩
  have h9 : Tryz.prog.globals.size ≤ 8 := of_decide_eq_true (by kernel_rfl)
  have h8 : 8 < (begin Tryz.prog (fun _ _ => 0) default).world.heap.size := of_decide_eq_true (by kernel_rfl)
  obtain ⟨o, o₀, ho, _⟩ := hshape.2 8 h9 h8
  have := (Array.getElem?_eq_some_iff.1 ho).1
  omega
end Go.Proofs.YtonmpealebggoaaGreatDoor
namespace Go.Proofs.YtonmpealebggoaaGreatDoor
open Go.RowKit Pr
open Go.Joins Go.ChangeShapes Go.WideShapes Go.ChangeAt Go.Deep
section
variable {H : Type} {enc : TypeId × Value → H} {W : World}
theorem cellsFt : Tryz.prog.cellsOf 30 = 2 := by kernel_rfl
set_option maxRecDepth 100000 in
theorem open_rule {base : Nat} {v : Value} {d : DataW H} {p : List MemPlace} (hv : Value.okWide Tryz.prog W .any base 27 v) (h : DataW.Trod enc Tryz.prog W 0 (fun _ => true) true 27 v d p) :
    ∃ (r : Rl) (u : V5), v = .agg #[.string (Bs r.1), u.k, u.t, u.c, u.n, u.d] ∧ CdV (fun _ => True) W u r.2 ∧ r.1.length ≤ maxLen := by
  obtain ⟨n, hn⟩ := h
  obtain ⟨cs, rfl, _⟩ := okWide_struct Tryz.underlying27 hv
  obtain ⟨r, u, e, ho, hz⟩ := open_rcells hn
  refine ⟨r, u, ?_, ho, hz⟩
  have e2 : cs.toList = [.string (Bs r.1), u.k, u.t, u.c, u.n, u.d] := e
  have e3 : cs = #[.string (Bs r.1), u.k, u.t, u.c, u.n, u.d] := by
    cases cs with
    | mk l => simp at e2; rw [e2]
  rw [e3]
set_option maxRecDepth 100000 in
theorem open_facts {base : Nat} {v : Value} {d : DataW H} {p : List MemPlace} (hv : Value.okWide Tryz.prog W .any base 28 v) (h : DataW.Trod enc Tryz.prog W 0 (fun _ => true) true 28 v d p) :
    ∃ l : List Ft, FtsM (fun _ => True) W v l := by
  obtain ⟨a0, len0, cap0, rfl⟩ := Go.WideShapes.okWide_slice Tryz.underlying28 hv
  obtain ⟨n, hn⟩ := h
  have hn' : DataW.trod enc Tryz.prog W 0 (fun _ => true) true n 28 [.slice a0 len0 cap0] = some (d, p) := by simpa [Value.cells] using hn
  generalize Value.slice a0 len0 cap0 = v at hn'
  rcases open_slice Tryz.underlying28 hn' with ⟨hc, hx⟩ | ⟨a, len, cap, mm, k, D, Pl, hc, _, hl, hmx, hmm, hx, hall⟩
  · simp only [List.cons.injEq, and_true] at hc
    subst hc
    exact ⟨[], SlM.nil _ _, fun t ht => by cases ht⟩
  · simp only [List.cons.injEq, and_true] at hc
    subst hc
    simp only [if_true] at hmm
    subst hmm
    obtain ⟨l, hll, hg⟩ := choose_list ft0 len (fun i b => b.1.length ≤ maxLen ∧ ∀ j u, (fcell b)[j]? = some u → W.cell? (a.add (i * 2 + j)) = some u) fun i hi => by
      obtain ⟨cs', hcc, ht'⟩ := hall i (by omega)
      rw [cellsFt] at hcc
      obtain ⟨_, hcl, hat⟩ := World.cells?_some hcc
      obtain ⟨v0, v1, y0, y1, k', rfl, -, r0, r1⟩ := open_struct2 Tryz.underlying30 (t0 := 9) (t1 := 3) (by kernel_rfl) (by kernel_rfl) cellsFt ht'
      obtain ⟨S, q0, _, hz⟩ := DataW.trod_string Tryz.underlying9 r0
      obtain ⟨z1, q1, _, _⟩ := DataW.trod_int Tryz.underlying3 r1
      simp only [List.cons.injEq, and_true] at q0 q1
      subst q0; subst q1
      refine ⟨(S.data.toList, z1), by simpa using hz, fun j u hu => ?_⟩
      have hj : j < 2 := by have := (List.getElem?_eq_some_iff.1 hu).1; simpa [fcell] using this
      have := hat j hj
      rw [← Go.Deep.add_add, this]
      exact hu
    subst hll
    refine ⟨l, slm_list flen (by omega) ft0 l a _ hl hmx fun i hi => (hg i hi).2, fun t ht => ?_⟩
    obtain ⟨i, hi, rfl⟩ := List.getElem_of_mem ht
    have := (hg i hi).1
    rw [List.getD_eq_getElem?_getD, List.getElem?_eq_getElem hi] at this
    exact this
theorem tableM {W : World} (h : laidMet Tryz.prog Rows.prepressTruthNeverRevokedRow.laid W) : Lib.TabIs Tryz.prog W "internal/strconv.uint64pow10" .u64 Lib.pow10Tab := by
  have h2 := laidMet.filter (fun x => x.1 == "internal/strconv.uint64pow10") h
  exact Lib.tabIs_of_head (rest := []) gTab gTabType Tryz.underlying186 Tryz.underlying121 cellsU cellsA h2
theorem tabsM {W : World} (h : laidMet Tryz.prog Rows.prepressTruthNeverRevokedRow.laid W) (hshape : W.ShapedOpen Tryz.prog) : Tabs W := by
  obtain ⟨m, hm⟩ := mx_of hshape
  refine ⟨tableM h, ⟨m, hm⟩, ?_⟩
  rcases Nat.lt_or_ge 0 W.heap.size with h1 | h1
  · exact h1
  · simp [World.cell?, Array.getElem?_eq_none h1] at hm
end
end Go.Proofs.YtonmpealebggoaaGreatDoor
