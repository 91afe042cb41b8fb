/- A law's fact opened, and how many facts a row's reach lets be. -/
import Derived.Test.YtonmpealebggoaaGreatDoorPrpTab
namespace Go.Proofs.YtonmpealebggoaaGreatDoor
open Go.RowKit Pr
open Go.Joins Go.ChangeShapes Go.WideShapes Go.ChangeAt Go.Deep
section
variable {H : Type} {enc : TypeId × Value → H} {W : World}
set_option maxRecDepth 100000 in
theorem open_fact {base : Nat} {v : Value} {d : DataW H} {p : List MemPlace} (hv : Value.okWide Tryz.prog W .any base 30 v) (h : DataW.Trod enc Tryz.prog W 0 (fun _ => true) true 30 v d p) :
    ∃ x : Ft, v = .agg #[.string (Bs x.1), .int .i64 x.2] ∧ x.1.length ≤ maxLen := by
  obtain ⟨n, hn⟩ := h
  obtain ⟨cs, rfl, _⟩ := okWide_struct Tryz.underlying30 hv
  obtain ⟨v0, v1, y0, y1, k', e, -, r0, r1⟩ := open_struct2 (cs := cs.toList) (d := d) (pl := p) Tryz.underlying30 (t0 := 9) (t1 := 3) (by kernel_rfl) (by kernel_rfl) cellsFt hn
  obtain ⟨S, q0, _, hz⟩ := DataW.trod_string Tryz.underlying9 r0
  obtain ⟨z1, q1, _, _⟩ := DataW.trod_int Tryz.underlying3 r1
  simp only [List.cons.injEq, and_true] at q0 q1
  subst q0; subst q1
  refine ⟨(S.data.toList, z1), ?_, by simpa using hz⟩
  have e3 : cs = #[.string S, .int .i64 z1] := by
    cases cs with
    | mk l => simp at e; rw [e]
  rw [e3]
theorem bytesFt : Tryz.prog.bytesOf 30 = 24 := by kernel_rfl
theorem facts_cap {v : Value} {l : List Ft} {d : DataW H} {p : List MemPlace} (h : DataW.Trod enc Tryz.prog W 0 (fun _ => true) true 28 v d p) (hf : FtsM (fun _ => True) W v l) (hw : ∀ n ∈ d.weights Tryz.prog 28, n ≤ reachBytes) : l.length * 24 ≤ reachBytes := by
  obtain ⟨A, c, rfl⟩ := hf.1.form
  obtain ⟨n, hn⟩ := h
  have hn' : DataW.trod enc Tryz.prog W 0 (fun _ => true) true n 28 [.slice A l.length c] = some (d, p) := by simpa [Value.cells] using hn
  rcases open_slice Tryz.underlying28 hn' with ⟨hc, hx⟩ | ⟨a, len, cap, mm, k, D, Pl, hc, _, hl, hmx, hmm, hx, hall⟩
  · simp only [List.cons.injEq, and_true] at hc
    injection hc with _ h1 h2
    omega
  · simp only [List.cons.injEq, and_true] at hc
    injection hc with _ h1 h2
    simp only [if_true] at hmm
    subst hmm
    have hd := congrArg Prod.fst hx
    dsimp only at hd
    rw [hd] at hw
    have := hw ((((List.range len).map D).length + ((List.range (mm - len)).map fun j => D (len + j)).length) * Tryz.prog.bytesOf 30) (by simp [DataW.weights, Tryz.underlying28])
    rw [bytesFt] at this
    simp only [List.length_map, List.length_range] at this
    omega
end
end Go.Proofs.YtonmpealebggoaaGreatDoor
