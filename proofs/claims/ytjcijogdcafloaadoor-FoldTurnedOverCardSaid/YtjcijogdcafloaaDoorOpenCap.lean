/- The layout's steps take no more bytes than the row's reach. -/
import Derived.Test.YtjcijogdcafloaaDoorOpenScheme
namespace Go.Proofs.YtjcijogdcafloaaDoor
open Go.RowKit
open Go.Joins Go.ChangeShapes Go.WideShapes Go.ChangeAt Go.Deep
theorem bytes45 : Tryd.prog.bytesOf 45 = 24 := by kernel_rfl
theorem steps_cap {H : Type} {enc : TypeId × Value → H} {W : World} {n : Nat} {v : Value} {l : List Step} {y : DataW H × List MemPlace} (h : DataW.trod enc Tryd.prog W 0 (fun _ => true) true n 22 [v] = some y) (hl : Sv W v l) (hw : ∀ n ∈ y.1.weights Tryd.prog 22, n ≤ reachBytes) : l.length * 24 ≤ reachBytes := by
  obtain ⟨A, c, ev⟩ := SlM.form hl
  subst ev
  rcases open_slice_fields Tryd.underlying22 Tryd.underlying45 (by kernel_rfl) cells45 h with ⟨hc, _⟩ | ⟨a, len, cap, m, D, Pl, hc, _, hle, hm, hmm, hx, _⟩
  · simp only [List.cons.injEq, and_true] at hc
    injection hc with _ h1 h2
    omega
  · simp only [List.cons.injEq, and_true] at hc
    injection hc with _ h1 h2
    simp only [if_true] at hmm
    subst hmm
    rw [hx] at hw
    have := hw ((((List.range len).map D).length + ((List.range (m - len)).map fun j => D (len + j)).length) * Tryd.prog.bytesOf 45) (by simp [DataW.weights, Tryd.underlying22])
    rw [bytes45] at this
    simp only [List.length_map, List.length_range] at this
    omega
set_option maxRecDepth 100000 in
theorem open_scheme_cap {H : Type} {enc : TypeId × Value → H} {W : World} {base : Nat} {v : Value} {d : DataW H} {p : List MemPlace} (hv : Value.okWide Tryd.prog W .any base 24 v) (h : DataW.Trod enc Tryd.prog W 0 (fun _ => true) true 24 v d p)
    (hw : ∀ n ∈ d.weights Tryd.prog 24, n ≤ reachBytes) :
    ∃ (C R : Int) (vs : Value) (l : List Step), v = .agg #[.int .i64 C, .int .i64 R, vs] ∧ Sv W vs l ∧ l.length * 24 ≤ reachBytes := by
  obtain ⟨v0, v1, v2, y0, y1, y2, n, rfl, rfl, _, t0, t1, t2⟩ := open_agg3 Tryd.underlying24 (by kernel_rfl) cells24 hv h
  obtain ⟨z0, c0, _, _⟩ := DataW.trod_int Tryd.underlying3 t0
  obtain ⟨z1, c1, _, _⟩ := DataW.trod_int Tryd.underlying3 t1
  obtain ⟨l, hl⟩ := open_steps t2
  simp only [List.cons.injEq, and_true] at c0 c1
  subst c0; subst c1
  simp only [DataW.weights, Tryd.underlying24, List.map_cons, List.map_nil, DataW.weightsEach, List.mem_append] at hw
  exact ⟨z0, z1, v2, l, rfl, hl, steps_cap t2 hl fun n hn => hw n (.inr (.inr (.inl hn)))⟩
end Go.Proofs.YtjcijogdcafloaaDoor
