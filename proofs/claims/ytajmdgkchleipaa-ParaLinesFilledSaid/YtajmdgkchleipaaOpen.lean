/- The arguments of the laws: words and a shape, opened to what the walks ask. -/
import Derived.Test.YtajmdgkchleipaaCover
import Derived.Deep.Slices
import Derived.Deep.Fields
import Derived.ChangeSame
import Derived.SizedLaws
import Derived.Lib.SmallJoins
namespace Go.Proofs.Ytajmdgkchleipaa
open Go.RowKit Para
open Go.Joins Go.ChangeShapes Go.WideShapes Go.ChangeAt Go.Deep
section
variable {H : Type} {enc : TypeId × Value → H} {P : Program} {w : World} {base : Nat} {spare : Nat → Bool} {held : Bool}
theorem open_slice_fields {t e : TypeId} {fs : Array Field} {fuel : Nat} {cs : List Value} {x : DataW H × List MemPlace} (ht : P.underlying t = some (.slice e)) (he : P.underlying e = some (.struct fs))
    (hone : oneCellFields P fs = true) (hC : P.cellsOf e = fs.size) (h : DataW.trod enc P w base spare held fuel t cs = some x) :
    (cs = [.slice none 0 0] ∧ x = (.nil, [])) ∨
    ∃ (a : Addr) (len cap m : Nat) (D : Nat → DataW H) (Pl : Nat → List MemPlace), cs = [.slice (some a) len cap] ∧ base ≤ a.block ∧ len ≤ cap ∧ cap ≤ maxLen ∧ m = (if spare a.block then cap else len) ∧
      x = (.slice ((List.range len).map D) ((List.range (m - len)).map fun j => D (len + j)), MemPlace.row a (m * fs.size) ++ (List.range m).flatMap Pl) ∧
      ∀ i, i < m → ∃ (ys : List (DataW H × List MemPlace)) (n : Nat), D i = .agg (ys.map (·.1)) ∧ Pl i = ys.flatMap (·.2) ∧ ys.length = fs.size ∧
        ∀ (j : Nat) (f : Field), fs[j]? = some f → ∃ (v : Value) (y : DataW H × List MemPlace), w.cell? (a.add (i * fs.size + j)) = some v ∧ ys[j]? = some y ∧ DataW.trod enc P w base spare held n f.type [v] = some y := by
  rcases open_slice ht h with h0 | ⟨a, len, cap, m, n, D, Pl, hcs, hb, hl, hm, hmm, hx, hi⟩
  · exact .inl h0
  · refine .inr ⟨a, len, cap, m, D, Pl, hcs, hb, hl, hm, hmm, by rw [hC] at hx; exact hx, fun i him => ?_⟩
    obtain ⟨cs', hc, ht'⟩ := hi i him
    rw [hC] at hc
    obtain ⟨ys, n', hn', hy, hlen, hyl, hf⟩ := DataW.trod_struct he ht'
    obtain ⟨_, hcl, hat⟩ := World.cells?_some hc
    simp only [Prod.mk.injEq] at hy
    refine ⟨ys, n', hy.1, hy.2, hyl, fun j f hj => ?_⟩
    obtain ⟨ho, hk⟩ := hone_of hone j f hj
    have hjl : j < fs.size := (Array.getElem?_eq_some_iff.1 hj).1
    have hcell := hat j hjl
    have hv : cs'[j]? = some (cs'[j]'(by omega)) := List.getElem?_eq_getElem (by omega)
    have h1 := hf j f hj
    rw [ho, hk] at h1
    have hone' : (cs'.drop j).take 1 = [cs'[j]'(by omega)] := by
      rw [List.drop_eq_getElem_cons (by omega)]
      rfl
    rw [hone'] at h1
    have hys : ys[j]? = some (ys[j]'(by omega)) := List.getElem?_eq_getElem (by omega)
    refine ⟨_, _, ?_, hys, h1.trans hys⟩
    rw [← Go.Deep.add_add, hcell, hv]
end
section
variable {H : Type} {enc : TypeId × Value → H} {P : Program} {w : World} {base : Nat} {spare : Nat → Bool} {held : Bool}
theorem open_agg6 {r : Reach} {b0 : Nat} {t : TypeId} {f0 f1 f2 f3 f4 f5 : Field} {v : Value} {d : DataW H} {p : List MemPlace} (hs : P.underlying t = some (.struct #[f0, f1, f2, f3, f4, f5])) (hone : oneCellFields P #[f0, f1, f2, f3, f4, f5] = true) (hC : P.cellsOf t = 6)
    (hv : Value.okWide P w r b0 t v) (h : DataW.Trod enc P w base spare held t v d p) :
    ∃ (v0 v1 v2 v3 v4 v5 : Value) (y0 y1 y2 y3 y4 y5 : DataW H × List MemPlace) (n : Nat), v = .agg #[v0, v1, v2, v3, v4, v5] ∧ d = .agg [y0.1, y1.1, y2.1, y3.1, y4.1, y5.1] ∧ p = y0.2 ++ (y1.2 ++ (y2.2 ++ (y3.2 ++ (y4.2 ++ y5.2)))) ∧
      DataW.trod enc P w base spare held n f0.type [v0] = some y0 ∧ DataW.trod enc P w base spare held n f1.type [v1] = some y1 ∧ DataW.trod enc P w base spare held n f2.type [v2] = some y2 ∧ DataW.trod enc P w base spare held n f3.type [v3] = some y3 ∧ DataW.trod enc P w base spare held n f4.type [v4] = some y4 ∧ DataW.trod enc P w base spare held n f5.type [v5] = some y5 := by
  obtain ⟨cs, rfl, hsz⟩ := okWide_struct hs hv
  obtain ⟨l⟩ := cs
  match l, hsz.trans hC with
  | [c0, c1, c2, c3, c4, c5], _ =>
    obtain ⟨fuel, hf⟩ := h
    obtain ⟨xs, n, _, hx, _, hlen, hg⟩ := DataW.trod_struct hs hf
    obtain ⟨o0, k0⟩ := hone_of hone 0 f0 rfl
    obtain ⟨o1, k1⟩ := hone_of hone 1 f1 rfl
    obtain ⟨o2, k2⟩ := hone_of hone 2 f2 rfl
    obtain ⟨o3, k3⟩ := hone_of hone 3 f3 rfl
    obtain ⟨o4, k4⟩ := hone_of hone 4 f4 rfl
    obtain ⟨o5, k5⟩ := hone_of hone 5 f5 rfl
    match xs, hlen with
    | [y0, y1, y2, y3, y4, y5], _ =>
      simp only [Prod.mk.injEq] at hx
      exact ⟨c0, c1, c2, c3, c4, c5, y0, y1, y2, y3, y4, y5, n, rfl, by simpa using hx.1, by simpa using hx.2, by simpa [Value.cells, o0, k0] using hg 0 f0 rfl, by simpa [Value.cells, o1, k1] using hg 1 f1 rfl, by simpa [Value.cells, o2, k2] using hg 2 f2 rfl, by simpa [Value.cells, o3, k3] using hg 3 f3 rfl, by simpa [Value.cells, o4, k4] using hg 4 f4 rfl, by simpa [Value.cells, o5, k5] using hg 5 f5 rfl⟩
end

theorem cells3 : Try.prog.cellsOf 3 = 1 := by kernel_rfl
theorem bytes3 : Try.prog.bytesOf 3 = 8 := by kernel_rfl
theorem cells33 : Try.prog.cellsOf 33 = 2 := by kernel_rfl
theorem weightsAll_mem {H : Type} {P : Program} {e : TypeId} : ∀ {l : List (DataW H)} {d : DataW H}, d ∈ l → ∀ n ∈ d.weights P e, n ∈ DataW.weightsAll P e l
  | x :: l, d, hd, n, hn => by
    simp only [DataW.weightsAll]
    rcases List.mem_cons.1 hd with rfl | hd
    · exact List.mem_append_left _ hn
    · exact List.mem_append_right _ (weightsAll_mem hd n hn)
theorem open_ints {H : Type} {enc : TypeId × Value → H} {W : World} {n : Nat} {v : Value} {y : DataW H × List MemPlace} (h : DataW.trod enc Try.prog W 0 (fun _ => true) true n 31 [v] = some y) :
    ∃ (A : Option Addr) (c : Nat) (zs : List Int), v = .slice A zs.length c ∧ Sl W (fun _ => True) v (ints zs) ∧ ((∀ n ∈ y.1.weights Try.prog 31, n ≤ reachBytes) → zs.length ≤ 1000000000000000) := by
  rcases open_slice Try.underlying31 h with ⟨hc, hx⟩ | ⟨a, len, cap, m, k, D, Pl, hc, _, hl, hm, hmm, hx, hall⟩
  · simp only [List.cons.injEq, and_true] at hc
    subst hc
    exact ⟨none, 0, [], rfl, Sl.nil _ _, fun _ => by simp⟩
  · simp only [List.cons.injEq, and_true] at hc
    subst hc
    simp only [if_true] at hmm
    subst hmm
    rw [cells3] at hall
    have hone : ∀ i, i < m → ∃ z : Int, W.cell? (a.add i) = some (.int .i64 z) := fun i hi => by
      obtain ⟨cs', h1, h2⟩ := hall i hi
      obtain ⟨_, hlen, hcell⟩ := World.cells?_some h1
      match cs', hlen with
      | [c], _ =>
        obtain ⟨z, hc0, hd, _⟩ := DataW.trod_int Try.underlying3 h2
        simp only [List.cons.injEq, and_true] at hc0
        subst hc0
        have := hcell 0 (by omega)
        exact ⟨z, by simpa [Addr.add] using this⟩
    refine ⟨some a, m, (List.range len).map fun i => if hi : i < m then (hone i hi).choose else 0, by simp, ?_, fun hw => ?_⟩
    · refine ⟨some a, m, by simp [ints], by simpa [ints] using hl, hm, fun hn => ⟨a, rfl, trivial, ?_, fun i u hu => ?_⟩⟩
      · have hlen : 0 < len := by simpa [ints] using hn
        obtain ⟨z, hz⟩ := hone 0 (by omega)
        rcases Nat.lt_or_ge a.block W.heap.size with h1 | h1
        · exact h1
        · have : a.add 0 = a := rfl
          rw [this] at hz
          simp [World.cell?, Array.getElem?_eq_none h1] at hz
      · simp only [ints, List.map_map, List.getElem?_map] at hu
        have hi : i < len := by
          rcases Nat.lt_or_ge i len with h1 | h1
          · exact h1
          · rw [List.getElem?_eq_none (by simpa using h1)] at hu; simp at hu
        rw [List.getElem?_range hi] at hu
        simp only [Option.map_some, Function.comp, Option.some.injEq] at hu
        rw [dif_pos (show i < m by omega)] at hu
        rw [← hu]; exact (hone i (by omega)).choose_spec
    · rw [hx] at hw
      have := hw ((((List.range len).map D).length + ((List.range (m - len)).map fun j => D (len + j)).length) * Try.prog.bytesOf 3) (by simp [DataW.weights, Try.underlying31])
      rw [bytes3] at this
      simp only [List.length_map, List.length_range] at this ⊢
      have h2 := reachBytes_lt
      omega
theorem open_words {H : Type} {enc : TypeId × Value → H} {W : World} {n : Nat} {v : Value} {y : DataW H × List MemPlace} (h : DataW.trod enc Try.prog W 0 (fun _ => true) true n 22 [v] = some y) (hw : ∀ n ∈ y.1.weights Try.prog 22, n ≤ reachBytes) :
    ∃ (A : Option Addr) (c : Nat) (ws : List Wd), v = .slice A ws.length c ∧ Wds W A ws ∧ ws.length ≤ 9223372036854775807 := by
  rcases open_slice_fields Try.underlying22 Try.underlying33 (by kernel_rfl) cells33 h with ⟨hc, hx⟩ | ⟨a, len, cap, m, D, Pl, hc, _, hl, hm, hmm, hx, hall⟩
  · simp only [List.cons.injEq, and_true] at hc
    subst hc
    exact ⟨none, 0, [], rfl, .inl rfl, by simp⟩
  · simp only [List.cons.injEq, and_true] at hc
    subst hc
    simp only [if_true] at hmm
    subst hmm
    rw [hx] at hw
    have hone : ∀ i, i < len → ∃ x : Wd, (x.parts.length ≤ 1000000000000000 ∧ x.joins.length ≤ 1000000000000000) ∧ ∃ A cA B cB, W.cell? (a.add (i * 2)) = some (.slice A x.parts.length cA) ∧ W.cell? (a.add (i * 2 + 1)) = some (.slice B x.joins.length cB) ∧
        Sl W (fun _ => True) (.slice A x.parts.length cA) (ints x.parts) ∧ Sl W (fun _ => True) (.slice B x.joins.length cB) (ints x.joins) := fun i hi => by
      obtain ⟨ys, k, hD, hPl, hlen, hf⟩ := hall i (by omega)
      obtain ⟨v0, y0, c0, e0, t0⟩ := hf 0 _ rfl
      obtain ⟨v1, y1, c1, e1, t1⟩ := hf 1 _ rfl
      obtain ⟨A, cA, ps, rfl, s0, b0⟩ := open_ints t0
      obtain ⟨B, cB, js, rfl, s1, b1⟩ := open_ints t1
      have hys : ys = [y0, y1] := by
        match ys, hlen, e0, e1 with
        | [a, b], _, e0, e1 => simp at e0 e1; rw [e0, e1]
      have hmem : ∀ n ∈ (D i).weights Try.prog 33, n ≤ reachBytes := fun n hn => hw n (by
        simp only [DataW.weights, Try.underlying22]
        exact List.mem_cons_of_mem _ (List.mem_append_left _ (weightsAll_mem (List.mem_map.2 ⟨i, List.mem_range.2 hi, rfl⟩) n hn)))
      rw [hD, hys] at hmem
      simp only [DataW.weights, Try.underlying33, List.map_cons, List.map_nil, DataW.weightsEach, List.mem_append] at hmem
      exact ⟨⟨ps, js⟩, ⟨b0 fun n hn => hmem n (.inl hn), b1 fun n hn => hmem n (.inr (.inl hn))⟩, A, cA, B, cB, c0, c1, s0, s1⟩
    refine ⟨some a, m, (List.range len).map fun i => if hi : i < len then (hone i hi).choose else wd0, by simp, ?_, ?_⟩
    · rcases Nat.eq_zero_or_pos len with h0 | h0
      · subst h0; exact .inl rfl
      · obtain ⟨b, off, spot⟩ := a
        have hat : ∀ i, (hi : i < len) → wdAt ((List.range len).map fun i => if hi : i < len then (hone i hi).choose else wd0) i = (hone i hi).choose := fun i hi => by
          simp only [wdAt, List.getD_eq_getElem?_getD, List.getElem?_map, List.getElem?_range hi, Option.map_some, Option.getD_some, dif_pos hi]
        obtain ⟨x, _, A, cA, B, cB, c0, _⟩ := hone 0 h0
        have hs : spot = none := by simpa [Addr.add] using World.cell?_spot c0
        subst hs
        refine .inr ⟨by simpa using h0, b, off, rfl, ?_, fun i hi => ?_, fun i hi => ?_⟩
        · rcases Nat.lt_or_ge b W.heap.size with h1 | h1
          · exact h1
          · rw [add_plain] at c0
            simp [World.cell?, Array.getElem?_eq_none h1] at c0
        · have hi' : i < len := by simpa using hi
          rw [hat i hi']; exact (hone i hi').choose_spec.1
        · have hi' : i < len := by simpa using hi
          rw [hat i hi']
          obtain ⟨A, cA, B, cB, c0, c1, s0, s1⟩ := (hone i hi').choose_spec.2
          exact ⟨A, cA, B, cB, by rw [← add_plain]; exact c0, by rw [Nat.add_assoc, ← add_plain]; exact c1, s0, s1⟩
    · have := hm; unfold maxLen at this; simp; omega
theorem Try.cells24 : Try.prog.cellsOf 24 = 6 := by kernel_rfl
theorem open_shape {H : Type} {enc : TypeId × Value → H} {W : World} {base : Nat} {v : Value} {d : DataW H} {p : List MemPlace} (hv : Value.okWide Try.prog W .any base 24 v) (h : DataW.Trod enc Try.prog W 0 (fun _ => true) true 24 v d p) :
    ∃ s : Shape, v = .agg #[.int .i64 s.W, .int .i64 s.S, .int .i64 s.Lo, .int .i64 s.Mo, .int .i64 s.H, .int .i64 s.C] := by
  obtain ⟨v0, v1, v2, v3, v4, v5, y0, y1, y2, y3, y4, y5, n, rfl, _, _, t0, t1, t2, t3, t4, t5⟩ := open_agg6 Try.underlying24 (by kernel_rfl) Try.cells24 hv h
  obtain ⟨z0, c0, _, _⟩ := DataW.trod_int Try.underlying3 t0
  obtain ⟨z1, c1, _, _⟩ := DataW.trod_int Try.underlying3 t1
  obtain ⟨z2, c2, _, _⟩ := DataW.trod_int Try.underlying3 t2
  obtain ⟨z3, c3, _, _⟩ := DataW.trod_int Try.underlying3 t3
  obtain ⟨z4, c4, _, _⟩ := DataW.trod_int Try.underlying3 t4
  obtain ⟨z5, c5, _, _⟩ := DataW.trod_int Try.underlying3 t5
  simp only [List.cons.injEq, and_true] at c0 c1 c2 c3 c4 c5
  subst c0; subst c1; subst c2; subst c3; subst c4; subst c5
  exact ⟨⟨z0, z1, z2, z3, z4, z5⟩, rfl⟩
end Go.Proofs.Ytajmdgkchleipaa
