/- The laws' arguments opened to what the walks ask: objects, paths, the library's tables. -/
import Derived.Test.YthbdhijkdldmoaaGreatDoorObjGet
import Derived.Test.YthbdhijkdldmoaaGreatDoorTokPri
import Derived.Test.YthbdhijkdldmoaaGreatDoorClose
import Derived.Test.YthbdhijkdldmoaaGreatDoorTokSmall
import Derived.Deep.Strs
import Derived.Deep.Slices
import Derived.Deep.Fields
import Derived.ChangeSame
import Derived.SizedLaws
import Derived.Lib.SmallJoins
import Derived.LaidSub
import Derived.Test.YthbdhijkdldmoaaGreatDoorRows
namespace Go.Proofs.YthbdhijkdldmoaaGreatDoor
open Go.RowKit Tk Ob
open Go.Joins Go.ChangeShapes Go.WideShapes Go.ChangeAt Go.Deep
theorem choose_list {α : Type} (d : α) : ∀ (n : Nat) (G : Nat → α → Prop), (∀ i, i < n → ∃ x, G i x) → ∃ l : List α, l.length = n ∧ ∀ i, i < n → G i (l.getD i d)
  | 0, _, _ => ⟨[], rfl, fun i h => absurd h (by omega)⟩
  | n + 1, G, h => by
    obtain ⟨l, hl, hg⟩ := choose_list d n G fun i hi => h i (by omega)
    obtain ⟨x, hx⟩ := h n (by omega)
    refine ⟨l ++ [x], by simp [hl], fun i hi => ?_⟩
    rw [List.getD_eq_getElem?_getD]
    rcases Nat.lt_or_ge i n with h1 | h1
    · rw [List.getElem?_append_left (by omega), ← List.getD_eq_getElem?_getD]; exact hg i h1
    · obtain rfl : i = n := by omega
      rw [List.getElem?_append_right (by omega), hl, Nat.sub_self]; exact hx
theorem slm_list {W : World} {α : Type} {f : α → List Value} {m : Nat} (hf : ∀ a, (f a).length = m) (hm0 : 0 < m) (d : α) (l : List α) (a : Addr) (cap : Nat) (hl : l.length ≤ cap) (hm : cap ≤ maxLen)
    (hc : ∀ i, i < l.length → ∀ j u, (f (l.getD i d))[j]? = some u → W.cell? (a.add (i * m + j)) = some u) : SlM W (fun _ => True) (.slice (some a) l.length cap) l.length (l.flatMap f) := by
  refine ⟨_, cap, rfl, hl, hm, fun hn => ?_⟩
  have h0 := hc 0 hn 0 _ (List.getElem?_eq_getElem (by rw [hf]; exact hm0))
  obtain ⟨b, off, spot⟩ := a
  have hs : spot = none := by simpa [Addr.add] using World.cell?_spot h0
  subst hs
  refine ⟨b, off, rfl, trivial, ?_, fun k u hu => ?_⟩
  · rcases Nat.lt_or_ge b W.heap.size with h1 | h1
    · exact h1
    · rw [add_plain] at h0
      simp [World.cell?, Array.getElem?_eq_none h1] at h0
  · have hk : k < l.length * m := by
      have := (List.getElem?_eq_some_iff.1 hu).1
      rwa [flat_length hf] at this
    have hi : k / m < l.length := (Nat.div_lt_iff_lt_mul hm0).2 hk
    have hkk : k = k / m * m + k % m := by rw [Nat.mul_comm]; exact (Nat.div_add_mod k m).symm
    rw [hkk, flat_at hf d _ _ _ hi (Nat.mod_lt _ hm0)] at hu
    have := hc (k / m) hi (k % m) u hu
    rw [← hkk, add_plain] at this
    exact this
theorem cellsS : Tryz.prog.cellsOf 9 = 1 := by kernel_rfl
theorem cellsO : Tryz.prog.cellsOf 25 = 5 := by kernel_rfl
theorem open_keys {H : Type} {enc : TypeId × Value → H} {W : World} {n : Nat} {v : Value} {y : DataW H × List MemPlace} (h : DataW.trod enc Tryz.prog W 0 (fun _ => true) true n 22 [v] = some y) :
    ∃ ks : List Tk.Src, Sl W (fun _ => True) v (strs ks) ∧ ∀ s ∈ ks, s.length ≤ maxLen := by
  rcases open_strs Tryz.underlying22 Tryz.underlying9 cellsS h with ⟨hc, hx⟩ | ⟨a, len, cap, m, Sx, hc, _, hl, hm, hmm, hx, hall⟩
  · simp only [List.cons.injEq, and_true] at hc
    subst hc
    exact ⟨[], Sl.nil _ _, fun s hs => by cases hs⟩
  · simp only [List.cons.injEq, and_true] at hc
    subst hc
    simp only [if_true] at hmm
    subst hmm
    refine ⟨(List.range len).map fun i => (Sx i).data.toList, ⟨some a, m, by simp [strs], by simpa [strs] using hl, hm, fun hn => ⟨a, rfl, trivial, ?_, fun i u hu => ?_⟩⟩, fun s hs => ?_⟩
    · have hlen : 0 < len := by simpa [strs] using hn
      have hz := (hall 0 (by omega)).1
      rcases Nat.lt_or_ge a.block W.heap.size with h1 | h1
      · exact h1
      · have : a.add 0 = a := rfl
        rw [this] at hz
        simp [World.cell?, Array.getElem?_eq_none h1] at hz
    · simp only [strs, List.map_map, List.getElem?_map] at hu
      have hi : i < len := by
        rcases Nat.lt_or_ge i len with h1 | h1
        · exact h1
        · rw [List.getElem?_eq_none (by simpa using h1)] at hu; simp at hu
      rw [List.getElem?_range hi] at hu
      simp only [Option.map_some, Function.comp, Option.some.injEq] at hu
      rw [← hu]; exact (hall i (by omega)).1
    · obtain ⟨i, hi, rfl⟩ := List.mem_map.1 hs
      have := (hall i (by have := List.mem_range.1 hi; omega)).2
      simp only [Array.length_toList, ByteArray.size_data]
      exact this
section
variable {H : Type} {enc : TypeId × Value → H} {W : World}
theorem open_struct5 {P : Program} {e t0 t1 t2 t3 t4 : TypeId} {fs : Array Field} {d : DataW H} {pl : List MemPlace} {cs : List Value} {n : Nat} (he : P.underlying e = some (.struct fs)) (h5 : fs.map (·.type) = #[t0, t1, t2, t3, t4])
    (hone : oneCellFields P fs = true) (hC : P.cellsOf e = 5) (h : DataW.trod enc P W 0 (fun _ => true) true n e cs = some (d, pl)) :
    ∃ (v0 v1 v2 v3 v4 : Value) (y0 y1 y2 y3 y4 : DataW H × List MemPlace) (k : Nat), cs = [v0, v1, v2, v3, v4] ∧ d = .agg [y0.1, y1.1, y2.1, y3.1, y4.1] ∧
      DataW.trod enc P W 0 (fun _ => true) true k t0 [v0] = some y0 ∧ DataW.trod enc P W 0 (fun _ => true) true k t1 [v1] = some y1 ∧ DataW.trod enc P W 0 (fun _ => true) true k t2 [v2] = some y2 ∧
      DataW.trod enc P W 0 (fun _ => true) true k t3 [v3] = some y3 ∧ DataW.trod enc P W 0 (fun _ => true) true k t4 [v4] = some y4 := by
  have hs : fs.size = 5 := by have := congrArg Array.size h5; simpa using this
  have hft : ∀ (i : Nat) (q : TypeId), (#[t0, t1, t2, t3, t4] : Array TypeId)[i]? = some q → ∃ g : Field, fs[i]? = some g ∧ g.type = q := fun i q e => by
    rw [← h5, Array.getElem?_map] at e
    cases hfi : fs[i]? with
    | none => rw [hfi] at e; cases e
    | some g => rw [hfi] at e; injection e with e; exact ⟨g, rfl, e⟩
  obtain ⟨ys, n', hn', hy, hlen, hyl, hf⟩ := DataW.trod_struct he h
  simp only [Prod.mk.injEq] at hy
  rw [hC] at hlen
  rw [hs] at hyl
  match cs, hlen with
  | [v0, v1, v2, v3, v4], _ =>
    match ys, hyl with
    | [y0, y1, y2, y3, y4], _ =>
      have key : ∀ (j : Nat) (q : TypeId) (v : Value) (y : DataW H × List MemPlace), (#[t0, t1, t2, t3, t4] : Array TypeId)[j]? = some q → [v0, v1, v2, v3, v4][j]? = some v → [y0, y1, y2, y3, y4][j]? = some y → DataW.trod enc P W 0 (fun _ => true) true n' q [v] = some y := by
        intro j q v y hq hv hyj
        obtain ⟨f, hj, rfl⟩ := hft j q hq
        obtain ⟨ho, hk⟩ := hone_of hone j f hj
        have h1 := hf j f hj
        rw [ho, hk] at h1
        obtain ⟨hjl, e⟩ := List.getElem?_eq_some_iff.1 hv
        have hone' : ([v0, v1, v2, v3, v4].drop j).take 1 = [v] := by
          rw [List.drop_eq_getElem_cons hjl, e]
          rfl
        rw [hone'] at h1
        exact h1.trans hyj
      exact ⟨v0, v1, v2, v3, v4, y0, y1, y2, y3, y4, n', rfl, hy.1, key 0 _ _ _ rfl rfl rfl, key 1 _ _ _ rfl rfl rfl, key 2 _ _ _ rfl rfl rfl, key 3 _ _ _ rfl rfl rfl, key 4 _ _ _ rfl rfl rfl⟩
theorem open_fields {d : DataW H} {pl : List MemPlace} {cs : List Value} {n : Nat} (h : DataW.trod enc Tryz.prog W 0 (fun _ => true) true n 25 cs = some (d, pl))
    (hk : ∀ (y : DataW H × List MemPlace) (k : Nat) (v : Value), SizeOf.sizeOf y.1 < SizeOf.sizeOf d → DataW.trod enc Tryz.prog W 0 (fun _ => true) true k 23 [v] = some y →
      ∃ (vs : List V5) (os : List Ox), SlM W (fun _ => True) v os.length (v5cs vs) ∧ vs.length = os.length ∧ ∀ j (h : j < os.length) (h2 : j < vs.length), ObjV (fun _ => True) W vs[j] os[j]) :
    ∃ (v : V5) (o : Ox), cs = v.cells ∧ ObjV (fun _ => True) W v o := by
  obtain ⟨v0, v1, v2, v3, v4, y0, y1, y2, y3, y4, k, rfl, rfl, r0, r1, r2, r3, r4⟩ := open_struct5 Tryz.underlying25 (t0 := 3) (t1 := 3) (t2 := 9) (t3 := 22) (t4 := 23) (by kernel_rfl) (by kernel_rfl) cellsO h
  obtain ⟨z0, q0, _, _⟩ := DataW.trod_int Tryz.underlying3 r0
  obtain ⟨z1, q1, _, _⟩ := DataW.trod_int Tryz.underlying3 r1
  obtain ⟨S, q2, _⟩ := DataW.trod_string Tryz.underlying9 r2
  obtain ⟨ks, hks, _⟩ := open_keys r3
  obtain ⟨vs, os, h1, h2, h3⟩ := hk y4 k v4 (by simp; omega) r4
  simp only [List.cons.injEq, and_true] at q0 q1 q2
  subst q0; subst q1; subst q2
  have hS : S = ⟨S.data.toList.toArray⟩ := rfl
  rw [hS]
  exact ⟨⟨_, _, _, v3, v4⟩, _, rfl, ObjV.mk z0 z1 S.data.toList ks os v3 v4 vs hks h1 h2 h3⟩
theorem open_kids : ∀ (m : Nat) (y : DataW H × List MemPlace) (n : Nat) (v : Value), SizeOf.sizeOf y.1 < m → DataW.trod enc Tryz.prog W 0 (fun _ => true) true n 23 [v] = some y →
      ∃ (vs : List V5) (os : List Ox), SlM W (fun _ => True) v os.length (v5cs vs) ∧ vs.length = os.length ∧ ∀ j (h : j < os.length) (h2 : j < vs.length), ObjV (fun _ => True) W vs[j] os[j]
  | 0, y, n, v, hm, h => by omega
  | m + 1, y, n, v, hm, h => by
    rcases open_slice Tryz.underlying23 h with ⟨hc, hx⟩ | ⟨a, len, cap, mm, k, D, Pl, hc, _, hl, hmx, hmm, hx, hall⟩
    · simp only [List.cons.injEq, and_true] at hc
      subst hc
      exact ⟨[], [], SlM.nil _ _, rfl, fun j h => absurd h (by simp)⟩
    · simp only [List.cons.injEq, and_true] at hc
      subst hc
      simp only [if_true] at hmm
      subst hmm
      obtain ⟨l, hll, hg⟩ := choose_list ((⟨.nilIface, .nilIface, .nilIface, .nilIface, .nilIface⟩ : V5), Ox.mk 0 0 [] [] []) len (fun i b => ObjV (fun _ => True) W b.1 b.2 ∧ ∀ j u, b.1.cells[j]? = some u → W.cell? (a.add (i * 5 + j)) = some u) fun i hi => by
        obtain ⟨cs', hcc, ht'⟩ := hall i (by omega)
        rw [cellsO] at hcc
        obtain ⟨_, hcl, hat⟩ := World.cells?_some hcc
        have hsz : SizeOf.sizeOf (D i) < m := by
          have h1 : D i ∈ (List.range len).map D := List.mem_map.2 ⟨i, List.mem_range.2 hi, rfl⟩
          have h2 := List.sizeOf_lt_of_mem h1
          subst hx
          simp at hm h2 ⊢
          omega
        obtain ⟨v, o, e, ho⟩ := open_fields ht' fun y k v hy => open_kids m y k v (by omega)
        refine ⟨(v, o), ho, fun j u hu => ?_⟩
        have hj : j < 5 := by have := (List.getElem?_eq_some_iff.1 hu).1; simpa [V5.cells] using this
        have := hat j hj
        rw [← Go.Deep.add_add, this, e]
        exact hu
      subst hll
      refine ⟨l.map (·.1), l.map (·.2), ?_, by simp, fun j h1 h2 => ?_⟩
      · have := slm_list (W := W) (f := fun b : V5 × Ox => b.1.cells) (m := 5) (fun _ => rfl) (by omega) _ l a _ hl hmx fun i hi => (hg i hi).2
        rw [List.length_map]
        unfold v5cs
        rw [List.flatMap_map]
        exact this
      · have hj : j < l.length := by simpa using h1
        have := (hg j hj).1
        rw [List.getD_eq_getElem?_getD, List.getElem?_eq_getElem hj] at this
        simpa using this
set_option maxRecDepth 100000 in
theorem open_obj {base : Nat} {v : Value} {d : DataW H} {p : List MemPlace} (hv : Value.okWide Tryz.prog W .any base 25 v) (h : DataW.Trod enc Tryz.prog W 0 (fun _ => true) true 25 v d p) :
    ∃ (u : V5) (o : Ox), v = u.val ∧ ObjV (fun _ => True) W u o := by
  obtain ⟨n, hn⟩ := h
  obtain ⟨cs, rfl, _⟩ := okWide_struct Tryz.underlying25 hv
  obtain ⟨u, o, e, ho⟩ := open_fields hn fun y k v hy => open_kids _ y k v hy
  refine ⟨u, o, ?_, ho⟩
  have e2 : cs.toList = [u.k, u.i, u.t, u.ks, u.os] := e
  have e3 : cs = #[u.k, u.i, u.t, u.ks, u.os] := by
    cases cs with
    | mk l => simp at e2; rw [e2]
  rw [e3]
  rfl
set_option maxRecDepth 100000 in
theorem open_path {base : Nat} {v : Value} {d : DataW H} {p : List MemPlace} (hv : Value.okWide Tryz.prog W .any base 22 v) (h : DataW.Trod enc Tryz.prog W 0 (fun _ => true) true 22 v d p) :
    ∃ ks : List Tk.Src, Sl W (fun _ => True) v (strs ks) ∧ ∀ s ∈ ks, s.length ≤ maxLen := by
  obtain ⟨a, len, cap, rfl⟩ := Go.WideShapes.okWide_slice Tryz.underlying22 hv
  obtain ⟨n, hn⟩ := h
  exact open_keys (n := n) (by simpa [Value.cells] using hn)
theorem trod_iface {P : Program} {base : Nat} {sp : Nat → Bool} {held : Bool} {fuel : Nat} {t : TypeId} {cs : List Value} {x : DataW H × List MemPlace} {m : Array (String × TypeId)} (hu : P.underlying t = some (.interface m)) (h : DataW.trod enc P W base sp held fuel t cs = some x) :
    cs = [.nilIface] ∨ ∃ u v, cs = [.iface u v] := by
  cases fuel with
  | zero => simp [DataW.trod] at h
  | succ n =>
    unfold DataW.trod at h
    rw [hu] at h
    split at h <;> simp_all
end
theorem gErr : Tryz.prog.globalNamed "strconv.ErrRange" = some 1 := by kernel_rfl
theorem gErrType : (Tryz.prog.globals[1]?).map (·.type) = some 80 := by kernel_rfl
theorem gTab : Tryz.prog.globalNamed "internal/strconv.uint64pow10" = some 5 := by kernel_rfl
theorem gTabType : (Tryz.prog.globals[5]?).map (·.type) = some 165 := by kernel_rfl
theorem cellsA : Tryz.prog.cellsOf 165 = 20 := by kernel_rfl
theorem cellsU : Tryz.prog.cellsOf 137 = 1 := by kernel_rfl
theorem table {W : World} (h : laidMet Tryz.prog Rows.objectPrintParseRoundTripRow.laid W) : Tab10 W := by
  have h2 := laidMet.filter (fun x => x.1 == "internal/strconv.uint64pow10") h
  exact Lib.tabIs_of_head (rest := []) gTab gTabType Tryz.underlying165 Tryz.underlying137 cellsU cellsA h2
theorem errt {W : World} (h : laidMet Tryz.prog Rows.objectPrintParseRoundTripRow.laid W) : ErrT W := by
  have h2 := laidMet.filter (fun x => x.1 == "strconv.ErrRange") h
  obtain ⟨ps, ⟨g, t, cs, f, p, q, hg, ht, hv, hd, _⟩, _⟩ := h2
  obtain rfl := Option.some.inj (gErr.symm.trans hg)
  obtain rfl := Option.some.inj (gErrType.symm.trans ht)
  have hc := World.var?_cell hg hv 0
  rcases trod_iface Tryz.underlying80 hd with e | ⟨u, v, e⟩
  · have e0 : cs[0]? = some .nilIface := by rw [← Array.getElem?_toList, e]; rfl
    rw [e0] at hc
    exact ⟨Nat.succ_le_of_lt (block_lt_of_cell hc), _, hc, .inl rfl⟩
  · have e0 : cs[0]? = some (.iface u v) := by rw [← Array.getElem?_toList, e]; rfl
    rw [e0] at hc
    exact ⟨Nat.succ_le_of_lt (block_lt_of_cell hc), _, hc, .inr ⟨u, v, rfl⟩⟩
end Go.Proofs.YthbdhijkdldmoaaGreatDoor
