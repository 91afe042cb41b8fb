/- The laws' argument, a layout of pages, opened to what the walks ask. -/
import Derived.Test.YtjcijogdcafloaaOpenScheme
import Derived.Test.YtjcijogdcafloaaImpB
namespace Go.Proofs.Ytjcijogdcafloaa
open Go.RowKit
open Go.Joins Go.ChangeShapes Go.WideShapes Go.ChangeAt Go.Deep
theorem cells26 : Try.prog.cellsOf 26 = 11 := by kernel_rfl
theorem fields26 : ∃ fs : Array Field, Try.prog.underlying 26 = some (.struct fs) ∧ (fs.map fun f => (f.type, f.offset)) = #[(24, 0), (3, 3), (3, 4), (3, 5), (3, 6), (3, 7), (3, 8), (3, 9), (3, 10)] := ⟨_, Try.underlying26, by kernel_rfl⟩
set_option maxRecDepth 100000 in
theorem open_lay {H : Type} {enc : TypeId × Value → H} {W : World} {base : Nat} {v : Value} {d : DataW H} {p : List MemPlace} (hv : Value.okWide Try.prog W .any base 26 v) (h : DataW.Trod enc Try.prog W 0 (fun _ => true) true 26 v d p) :
    ∃ (I : LayI) (vs : Value) (l : List Step), v = I.val vs ∧ Sv W vs l := by
  obtain ⟨fs, hu, hfs⟩ := fields26
  obtain ⟨cs, rfl, hsz⟩ := okWide_struct hu hv
  obtain ⟨cl⟩ := cs
  match cl, hsz.trans cells26 with
  | [c0, c1, c2, c3, c4, c5, c6, c7, c8, c9, c10], _ =>
    obtain ⟨fuel, hf⟩ := h
    obtain ⟨xs, n, _, hx, _, hlen, hg⟩ := DataW.trod_struct hu hf
    have hs9 : fs.size = 9 := by have := congrArg Array.size hfs; simpa using this
    have hfi : ∀ (i : Nat) (t o : Nat), (#[(24, 0), (3, 3), (3, 4), (3, 5), (3, 6), (3, 7), (3, 8), (3, 9), (3, 10)] : Array (TypeId × Nat))[i]? = some (t, o) → ∃ f : Field, fs[i]? = some f ∧ f.type = t ∧ f.offset = o := fun i t o e => by
      rw [← hfs, Array.getElem?_map] at e
      cases hfi : fs[i]? with
      | none => rw [hfi] at e; cases e
      | some f => rw [hfi] at e; injection e with e; injection e with e1 e2; exact ⟨f, rfl, e1, e2⟩
    have hxi : ∀ i, i < 9 → ∃ y, xs[i]? = some y := fun i hi => ⟨xs[i]'(by omega), List.getElem?_eq_getElem (by omega)⟩
    have key : ∀ (i o : Nat), (#[(24, 0), (3, 3), (3, 4), (3, 5), (3, 6), (3, 7), (3, 8), (3, 9), (3, 10)] : Array (TypeId × Nat))[i]? = some (3, o) → i < 9 → ∃ z : Int, ([c0, c1, c2, c3, c4, c5, c6, c7, c8, c9, c10].drop o).take 1 = [.int .i64 z] := fun i o e hi => by
      obtain ⟨f, hf1, ht, ho⟩ := hfi i 3 o e
      obtain ⟨y, hy⟩ := hxi i hi
      have h1 := hg i f hf1
      rw [ht, ho, hy, show Try.prog.cellsOf 3 = 1 by kernel_rfl] at h1
      obtain ⟨z, hz, _, _⟩ := DataW.trod_int Try.underlying3 (by simpa [Value.cells] using h1)
      exact ⟨z, by simpa [Value.cells] using hz⟩
    obtain ⟨f0, hf0, ht0, ho0⟩ := hfi 0 _ _ rfl
    obtain ⟨y0, hy0⟩ := hxi 0 (by omega)
    have h0 := hg 0 f0 hf0
    rw [ht0, ho0, hy0, cells24] at h0
    have h0' : DataW.trod enc Try.prog W 0 (fun _ => true) true n 24 [c0, c1, c2] = some y0 := by simpa [Value.cells] using h0
    obtain ⟨x0, x1, x2, n', hx', _, g0, g1, g2⟩ := trod_struct3 Try.underlying24 h0'
    have k0 : DataW.trod enc Try.prog W 0 (fun _ => true) true n' 3 [c0] = some x0 := by simpa [show Try.prog.cellsOf 3 = 1 by kernel_rfl] using g0
    have k1 : DataW.trod enc Try.prog W 0 (fun _ => true) true n' 3 [c1] = some x1 := by simpa [show Try.prog.cellsOf 3 = 1 by kernel_rfl] using g1
    have k2 : DataW.trod enc Try.prog W 0 (fun _ => true) true n' 22 [c2] = some x2 := by simpa [show Try.prog.cellsOf 22 = 1 by kernel_rfl] using g2
    obtain ⟨zC, e0, _, _⟩ := DataW.trod_int Try.underlying3 k0
    obtain ⟨zR, e1, _, _⟩ := DataW.trod_int Try.underlying3 k1
    obtain ⟨l, hl⟩ := open_steps k2
    simp only [List.cons.injEq, and_true] at e0 e1
    subst e0 e1
    obtain ⟨z3, q3⟩ := key 1 3 rfl (by omega)
    obtain ⟨z4, q4⟩ := key 2 4 rfl (by omega)
    obtain ⟨z5, q5⟩ := key 3 5 rfl (by omega)
    obtain ⟨z6, q6⟩ := key 4 6 rfl (by omega)
    obtain ⟨z7, q7⟩ := key 5 7 rfl (by omega)
    obtain ⟨z8, q8⟩ := key 6 8 rfl (by omega)
    obtain ⟨z9, q9⟩ := key 7 9 rfl (by omega)
    obtain ⟨z10, q10⟩ := key 8 10 rfl (by omega)
    simp only [List.drop_succ_cons, List.drop_zero, List.take_succ_cons, List.take_zero, List.cons.injEq, and_true] at q3 q4 q5 q6 q7 q8 q9 q10
    subst q3 q4 q5 q6 q7 q8 q9 q10
    exact ⟨⟨zC, zR, z3, z4, z5, z6, z7, z8, z9, z10⟩, c2, l, rfl, hl⟩
end Go.Proofs.Ytjcijogdcafloaa
