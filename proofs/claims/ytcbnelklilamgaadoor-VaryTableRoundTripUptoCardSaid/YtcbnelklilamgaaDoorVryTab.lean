/- The laws' arguments opened to what the walks ask. -/
import Derived.Test.YtcbnelklilamgaaDoorVryMem
import Derived.Test.YtcbnelklilamgaaDoorVryQt
import Derived.Test.YtcbnelklilamgaaDoorClose
import Derived.Deep.Slices
import Derived.Deep.Fields
import Derived.Deep.Strs
import Derived.ChangeSame
import Derived.Shelf.Vars
import Derived.Test.YtcbnelklilamgaaDoorRows
namespace Go.Proofs.YtcbnelklilamgaaDoor
open Go.RowKit Vr
open Go.ChangeShapes Go.WideShapes Go.ChangeAt Go.Deep
theorem cellsS : Tryd.prog.cellsOf 9 = 1 := by kernel_rfl
theorem cellsSs : Tryd.prog.cellsOf 22 = 1 := by kernel_rfl
theorem cellsVt : Tryd.prog.cellsOf 25 = 2 := by kernel_rfl
theorem mx_of {W : World} (hshape : W.ShapedOpen Tryd.prog) : Mx W := by
  obtain ⟨m, hm⟩ : ∃ m, W.cell? ⟨2, 0, none⟩ = some (.int .i64 m) :=
    cell_of_shapedOpen_int (P := Tryd.prog) (g := 2) (t := 3) (zero := #[.int .i64 0]) hshape (of_decide_eq_true (by kernel_rfl)) (by kernel_rfl) rfl (by kernel_rfl) (by kernel_rfl) Tryd.underlying3
  refine ⟨⟨m, hm⟩, ?_⟩
  rcases Nat.lt_or_ge 2 W.heap.size with h1 | h1
  · exact h1
  · simp [World.cell?, Array.getElem?_eq_none h1] at hm
theorem bulk_mem {H : Type} : ∀ (l : List (DataW H)) (d : DataW H), d ∈ l → Rows.uptoBulk d ≤ Rows.uptoBulkAll l
  | a :: r, d, h => by
    rw [Rows.uptoBulkAll]
    rcases List.mem_cons.1 h with rfl | h
    · omega
    · have := bulk_mem r d h; omega
section
variable {H : Type} {enc : TypeId × Value → H} {W : World}
theorem open_struct2 {P : Program} {e t0 t1 : TypeId} {fs : Array Field} {d : DataW H} {pl : List MemPlace} {cs : List Value} {n : Nat} (he : P.underlying e = some (.struct fs)) (h5 : fs.map (·.type) = #[t0, t1])
    (hone : oneCellFields P fs = true) (hC : P.cellsOf e = 2) (h : DataW.trod enc P W 0 (fun _ => true) true n e cs = some (d, pl)) :
    ∃ (v0 v1 : Value) (y0 y1 : DataW H × List MemPlace) (k : Nat), cs = [v0, v1] ∧ d = .agg [y0.1, y1.1] ∧
      DataW.trod enc P W 0 (fun _ => true) true k t0 [v0] = some y0 ∧ DataW.trod enc P W 0 (fun _ => true) true k t1 [v1] = some y1 := by
  have hs : fs.size = 2 := by have := congrArg Array.size h5; simpa using this
  have hft : ∀ (i : Nat) (q : TypeId), (#[t0, t1] : Array TypeId)[i]? = some q → ∃ g : Field, fs[i]? = some g ∧ g.type = q := fun i q e => by
    rw [← h5, Array.getElem?_map] at e
    cases hfi : fs[i]? with
    | none => rw [hfi] at e; cases e
    | some g => rw [hfi] at e; injection e with e; exact ⟨g, rfl, e⟩
  obtain ⟨ys, n', hn', hy, hlen, hyl, hf⟩ := DataW.trod_struct he h
  simp only [Prod.mk.injEq] at hy
  rw [hC] at hlen
  rw [hs] at hyl
  match cs, hlen with
  | [v0, v1], _ =>
    match ys, hyl with
    | [y0, y1], _ =>
      have key : ∀ (j : Nat) (q : TypeId) (v : Value) (y : DataW H × List MemPlace), (#[t0, t1] : Array TypeId)[j]? = some q → [v0, v1][j]? = some v → [y0, y1][j]? = some y → DataW.trod enc P W 0 (fun _ => true) true n' q [v] = some y := by
        intro j q v y hq hv hyj
        obtain ⟨f, hj, rfl⟩ := hft j q hq
        obtain ⟨ho, hk⟩ := hone_of hone j f hj
        have h1 := hf j f hj
        rw [ho, hk] at h1
        obtain ⟨hjl, e⟩ := List.getElem?_eq_some_iff.1 hv
        have hone' : ([v0, v1].drop j).take 1 = [v] := by
          rw [List.drop_eq_getElem_cons hjl, e]
          rfl
        rw [hone'] at h1
        exact h1.trans hyj
      exact ⟨v0, v1, y0, y1, n', rfl, hy.1, key 0 _ _ _ rfl rfl rfl, key 1 _ _ _ rfl rfl rfl⟩
theorem open_stv {n : Nat} {v : Value} {y : DataW H × List MemPlace} (h : DataW.trod enc Tryd.prog W 0 (fun _ => true) true n 22 [v] = some y) :
    ∃ l : List Src, StM (fun _ => True) W v l ∧ ∀ s ∈ l, s.length ≤ Rows.uptoBulk y.1 := by
  rcases open_strs Tryd.underlying22 Tryd.underlying9 cellsS h with ⟨hc, hx⟩ | ⟨a, len, cap, m, Sx, hc, _, hl, hm, hmm, hx, hall⟩
  · simp only [List.cons.injEq, and_true] at hc
    subst hc
    exact ⟨[], SlM.nil _ _, fun s hs => by cases hs⟩
  · simp only [List.cons.injEq, and_true] at hc
    subst hc
    simp only [if_true] at hmm
    subst hmm
    have hlen : ((List.range len).map fun i => (Sx i).data.toList).length = len := by simp
    refine ⟨(List.range len).map fun i => (Sx i).data.toList, ?_, fun s hs => ?_⟩
    · refine ⟨some a, m, by rw [hlen], by rw [hlen]; exact hl, hm, fun hn => ?_⟩
      rw [hlen] at hn
      have h0 := (hall 0 (by omega)).1
      obtain ⟨b, off, spot⟩ := a
      have hs : spot = none := by simpa [Addr.add] using World.cell?_spot h0
      subst hs
      refine ⟨b, off, rfl, trivial, ?_, fun i u hu => ?_⟩
      · rcases Nat.lt_or_ge b W.heap.size with h1 | h1
        · exact h1
        · rw [add_plain] at h0
          simp [World.cell?, Array.getElem?_eq_none h1] at h0
      · have hi : i < len := by
          rcases Nat.lt_or_ge i len with h1 | h1
          · exact h1
          · rw [List.getElem?_eq_none (by simpa [scells] using h1)] at hu; cases hu
        simp only [scells, List.map_map, List.getElem?_map, List.getElem?_range hi, Option.map_some, Function.comp, Option.some.injEq] at hu
        rw [← hu]
        have := (hall i (by omega)).1
        rw [add_plain] at this
        exact this
    · obtain ⟨i, hi, rfl⟩ := List.mem_map.1 hs
      subst hx
      have := bulk_mem ((List.range len).map fun i => (.lit (.string (Sx i).data.toList) : DataW H)) _ (List.mem_map.2 ⟨i, hi, rfl⟩)
      simp only [Rows.uptoBulk] at this ⊢
      omega
theorem open_rws {n : Nat} {v : Value} {y : DataW H × List MemPlace} (h : DataW.trod enc Tryd.prog W 0 (fun _ => true) true n 23 [v] = some y) :
    ∃ l : List (List Src), RwM (fun _ => True) W v l ∧ ∀ r ∈ l, ∀ s ∈ r, s.length ≤ Rows.uptoBulk y.1 := by
  rcases open_slice1 Tryd.underlying23 cellsSs h with ⟨hc, hx⟩ | ⟨a, len, cap, m, k, V, D, Pl, hc, _, hl, hm, hmm, hx, hall⟩
  · simp only [List.cons.injEq, and_true] at hc
    subst hc
    exact ⟨[], ⟨[], rfl, SlM.nil _ _, fun i h => absurd h (by simp)⟩, fun s hs => by cases hs⟩
  · simp only [List.cons.injEq, and_true] at hc
    subst hc
    simp only [if_true] at hmm
    subst hmm
    obtain ⟨L, hL⟩ := choose_lt (α := List Src) (p := fun i l => StM (fun _ => True) W (V i) l ∧ ∀ s ∈ l, s.length ≤ Rows.uptoBulk (D i)) (fun i (hi : i < m) => by
      obtain ⟨l, h1, h2⟩ := open_stv (hall i hi).2
      exact ⟨l, h1, h2⟩)
    have hlen : ((List.range len).map L).length = len := by simp
    refine ⟨(List.range len).map L, ⟨(List.range len).map V, by simp, ?_, fun i h1 h2 => ?_⟩, fun r hr s hs => ?_⟩
    · rw [hlen]
      refine ⟨some a, m, rfl, hl, hm, fun hn => ?_⟩
      have h0 := (hall 0 (by omega)).1
      obtain ⟨b, off, spot⟩ := a
      have hs : spot = none := by simpa [Addr.add] using World.cell?_spot h0
      subst hs
      refine ⟨b, off, rfl, trivial, ?_, fun i u hu => ?_⟩
      · rcases Nat.lt_or_ge b W.heap.size with h1 | h1
        · exact h1
        · rw [add_plain] at h0
          simp [World.cell?, Array.getElem?_eq_none h1] at h0
      · have hi : i < len := by
          rcases Nat.lt_or_ge i len with h1 | h1
          · exact h1
          · rw [List.getElem?_eq_none (by simpa using h1)] at hu; cases hu
        simp only [List.getElem?_map, List.getElem?_range hi, Option.map_some, Option.some.injEq] at hu
        rw [← hu]
        have := (hall i (by omega)).1
        rw [add_plain] at this
        exact this
    · have hi : i < len := by simpa using h1
      simpa using (hL i (by omega)).1
    · obtain ⟨i, hi, rfl⟩ := List.mem_map.1 hr
      have hi2 : i < len := List.mem_range.1 hi
      subst hx
      have h1 := bulk_mem ((List.range len).map D) _ (List.mem_map.2 ⟨i, hi, rfl⟩)
      have h2 := (hL i (by omega)).2 s hs
      simp only [Rows.uptoBulk]
      omega
set_option maxRecDepth 100000 in
theorem open_tab {base : Nat} {v : Value} {d : DataW H} {p : List MemPlace} (hv : Value.okWide Tryd.prog W .any base 25 v) (h : DataW.Trod enc Tryd.prog W 0 (fun _ => true) true 25 v d p) :
    ∃ (fv rv : Value) (f : List Src) (rows : List (List Src)), v = .agg #[fv, rv] ∧ StM (fun _ => True) W fv f ∧ RwM (fun _ => True) W rv rows ∧ (∀ s ∈ f, s.length ≤ Rows.uptoBulk d) ∧ ∀ r ∈ rows, ∀ s ∈ r, s.length ≤ Rows.uptoBulk d := by
  obtain ⟨n, hn⟩ := h
  obtain ⟨cs, rfl, _⟩ := okWide_struct Tryd.underlying25 hv
  obtain ⟨v0, v1, y0, y1, k, hc, hd, r0, r1⟩ := open_struct2 Tryd.underlying25 (t0 := 22) (t1 := 23) (by kernel_rfl) (by kernel_rfl) cellsVt hn
  obtain ⟨f, f1, f2⟩ := open_stv r0
  obtain ⟨rows, g1, g2⟩ := open_rws r1
  refine ⟨v0, v1, f, rows, ?_, f1, g1, fun s hs => ?_, fun r hr s hs => ?_⟩
  · have e2 : cs.toList = [v0, v1] := hc
    have e3 : cs = #[v0, v1] := by
      cases cs with
      | mk l => simp at e2; rw [e2]
    rw [e3]
  · subst hd
    have := f2 s hs
    simp only [Rows.uptoBulk, Rows.uptoBulkAll]
    omega
  · subst hd
    have := g2 r hr s hs
    simp only [Rows.uptoBulk, Rows.uptoBulkAll]
    omega
end
end Go.Proofs.YtcbnelklilamgaaDoor
