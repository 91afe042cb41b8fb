/- A law's rule and its facts, opened to what the walks ask. -/
import Derived.Test.YtonmpealebggoaaDoorPrpTab
namespace Go.Proofs.YtonmpealebggoaaDoor
open Go.RowKit Pr
open Go.Joins Go.ChangeShapes Go.WideShapes Go.ChangeAt Go.Deep
section
variable {H : Type} {enc : TypeId × Value → H} {W : World}
theorem cellsFt : Tryd.prog.cellsOf 50 = 2 := by kernel_rfl
set_option maxRecDepth 100000 in
theorem open_rule {base : Nat} {v : Value} {d : DataW H} {p : List MemPlace} (hv : Value.okWide Tryd.prog W .any base 36 v) (h : DataW.Trod enc Tryd.prog W 0 (fun _ => true) true 36 v d p) :
    ∃ (r : Rl) (u : V5), v = .agg #[.string (Bs r.1), u.k, u.t, u.c, u.n, u.d] ∧ CdV (fun _ => True) W u r.2 ∧ r.1.length ≤ maxLen := by
  obtain ⟨n, hn⟩ := h
  obtain ⟨cs, rfl, _⟩ := okWide_struct Tryd.underlying36 hv
  obtain ⟨r, u, e, ho, hz⟩ := open_rcells hn
  refine ⟨r, u, ?_, ho, hz⟩
  have e2 : cs.toList = [.string (Bs r.1), u.k, u.t, u.c, u.n, u.d] := e
  have e3 : cs = #[.string (Bs r.1), u.k, u.t, u.c, u.n, u.d] := by
    cases cs with
    | mk l => simp at e2; rw [e2]
  rw [e3]
set_option maxRecDepth 100000 in
theorem open_facts {base : Nat} {v : Value} {d : DataW H} {p : List MemPlace} (hv : Value.okWide Tryd.prog W .any base 42 v) (h : DataW.Trod enc Tryd.prog W 0 (fun _ => true) true 42 v d p) :
    ∃ l : List Ft, FtsM (fun _ => True) W v l := by
  obtain ⟨a0, len0, cap0, rfl⟩ := Go.WideShapes.okWide_slice Tryd.underlying42 hv
  obtain ⟨n, hn⟩ := h
  have hn' : DataW.trod enc Tryd.prog W 0 (fun _ => true) true n 42 [.slice a0 len0 cap0] = some (d, p) := by simpa [Value.cells] using hn
  generalize Value.slice a0 len0 cap0 = v at hn'
  rcases open_slice Tryd.underlying42 hn' with ⟨hc, hx⟩ | ⟨a, len, cap, mm, k, D, Pl, hc, _, hl, hmx, hmm, hx, hall⟩
  · simp only [List.cons.injEq, and_true] at hc
    subst hc
    exact ⟨[], SlM.nil _ _, fun t ht => by cases ht⟩
  · simp only [List.cons.injEq, and_true] at hc
    subst hc
    simp only [if_true] at hmm
    subst hmm
    obtain ⟨l, hll, hg⟩ := choose_list ft0 len (fun i b => b.1.length ≤ maxLen ∧ ∀ j u, (fcell b)[j]? = some u → W.cell? (a.add (i * 2 + j)) = some u) fun i hi => by
      obtain ⟨cs', hcc, ht'⟩ := hall i (by omega)
      rw [cellsFt] at hcc
      obtain ⟨_, hcl, hat⟩ := World.cells?_some hcc
      obtain ⟨v0, v1, y0, y1, k', rfl, -, r0, r1⟩ := open_struct2 Tryd.underlying50 (t0 := 9) (t1 := 3) (by kernel_rfl) (by kernel_rfl) cellsFt ht'
      obtain ⟨S, q0, _, hz⟩ := DataW.trod_string Tryd.underlying9 r0
      obtain ⟨z1, q1, _, _⟩ := DataW.trod_int Tryd.underlying3 r1
      simp only [List.cons.injEq, and_true] at q0 q1
      subst q0; subst q1
      refine ⟨(S.data.toList, z1), by simpa using hz, fun j u hu => ?_⟩
      have hj : j < 2 := by have := (List.getElem?_eq_some_iff.1 hu).1; simpa [fcell] using this
      have := hat j hj
      rw [← Go.Deep.add_add, this]
      exact hu
    subst hll
    refine ⟨l, slm_list flen (by omega) ft0 l a _ hl hmx fun i hi => (hg i hi).2, fun t ht => ?_⟩
    obtain ⟨i, hi, rfl⟩ := List.getElem_of_mem ht
    have := (hg i hi).1
    rw [List.getD_eq_getElem?_getD, List.getElem?_eq_getElem hi] at this
    exact this
theorem tableM {W : World} (h : laidMet Tryd.prog Rows.prepressReasonsMinimalRow.laid W) : Lib.TabIs Tryd.prog W "internal/strconv.uint64pow10" .u64 Lib.pow10Tab := by
  have h2 := laidMet.filter (fun x => x.1 == "internal/strconv.uint64pow10") h
  exact Lib.tabIs_of_head (rest := []) gTab gTabType Tryd.underlying180 Tryd.underlying129 cellsU cellsA h2
theorem tabsM {W : World} (h : laidMet Tryd.prog Rows.prepressReasonsMinimalRow.laid W) (hshape : W.ShapedOpen Tryd.prog) : Tabs W := by
  obtain ⟨m, hm⟩ := mx_of hshape
  refine ⟨tableM h, ⟨m, hm⟩, ?_⟩
  rcases Nat.lt_or_ge 0 W.heap.size with h1 | h1
  · exact h1
  · simp [World.cell?, Array.getElem?_eq_none h1] at hm
end
end Go.Proofs.YtonmpealebggoaaDoor
