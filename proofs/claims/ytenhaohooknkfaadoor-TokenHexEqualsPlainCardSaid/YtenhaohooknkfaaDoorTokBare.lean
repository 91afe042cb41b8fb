/- The walks of bare, head and scans. -/
import Derived.Test.YtenhaohooknkfaaDoorTokScn
namespace Go.Proofs.YtenhaohooknkfaaDoor
open Go.RowKit Tk
set_option maxRecDepth 100000 in
theorem bare_any (k i a e : Int) (t : ByteArray) (w : World) :
    Calls Tryd.prog 10 #[tokV k i t a e] w fun r w' => r = .returned (tokV k i t 0 0) ∧ Below w.heap.size w w' := by
  unfold tokV
  go_enter Tryd.func10, Tryd.ntmps10
  go_wp2_with fail
  refine bodyPost_ret (v := .agg #[.int .i64 k, .int .i64 i, .string t, .int .i64 0, .int .i64 0]) (by simp [results, Tryd.results10, go_sem]) rfl ?_
  exact ⟨rfl, ((Below.refl _ _).alloc (Nat.le_refl _) _).alloc (by simp) _⟩
theorem head_any (S : ByteArray) (n : Nat) (w : World) (hs : S.size ≤ maxLen) (hn : n ≤ 100000) :
    Calls Tryd.prog 11 #[.string S, .int .i64 (n : Int)] w fun r w' => r = .returned (.string (S.extract 0 n)) ∧ w = w' := by
  unfold maxLen at hs
  have hE : S.extract 0 (min (S.size : Int) (n : Int)).toNat = S.extract 0 n := by
    rw [show (min (S.size : Int) (n : Int)).toNat = min S.size n by omega]
    apply ByteArray.ext
    rw [ByteArray.data_extract, ByteArray.data_extract]
    apply Array.ext'
    simp only [Array.toList_extract, List.extract_eq_take_drop, List.drop_zero, Nat.sub_zero]
    have hl : S.data.toList.length = S.size := bys_len S
    rcases Nat.le_total S.size n with h | h
    · rw [Nat.min_eq_left h, List.take_of_length_le (by omega), List.take_of_length_le (by omega)]
    · rw [Nat.min_eq_right h]
  have HE := Lib.hid hE
  clear hE
  by_cases hlt : n < S.size
  · have h2 : (n : Int) < (S.size : Int) := by omega
    have h3 : (n : Int) ≤ (S.size : Int) := by omega
    clear hlt
    go_enter Tryd.func11, Tryd.ntmps11
    go_wp2_with fail
    refine bodyPost_ret (v := .string (S.extract 0 (min (S.size : Int) (n : Int)).toNat)) (by simp [results, Tryd.results11, go_sem]) rfl ?_
    exact ⟨by rw [HE.out], rfl⟩
  · have h2 : ¬ (n : Int) < (S.size : Int) := by omega
    have h3 : (S.size : Int) ≤ (n : Int) := by omega
    clear hlt
    go_enter Tryd.func11, Tryd.ntmps11
    go_wp2_with fail
    refine bodyPost_ret (v := .string (S.extract 0 (min (S.size : Int) (n : Int)).toNat)) (by simp [results, Tryd.results11, go_sem]) rfl ?_
    exact ⟨by rw [HE.out], rfl⟩
theorem toksC_get (ts : List Tok) (i j : Nat) (hi : i < ts.length) (hj : j < 5) : (toksC ts)[i * 5 + j]? = (tokC ts[i])[j]? := by
  induction ts generalizing i with
  | nil => cases hi
  | cons t r ih =>
    rw [show toksC (t :: r) = tokC t ++ toksC r from rfl]
    cases i with
    | zero => rw [List.getElem?_append_left (by simp [tokC]; omega)]; simp
    | succ i =>
      rw [List.getElem?_append_right (by simp [tokC]; omega), show (i + 1) * 5 + j - (tokC t).length = i * 5 + j by simp [tokC]; omega]
      exact ih i (by simpa using hi)
/-- The cells of a token of an own row. -/
theorem toks_cells {W : World} {base n g cap : Nat} {ts : List Tok} (h : W.ownsRow base 28 5 (.slice (some ⟨g, 0, none⟩) n cap) n (toksC ts)) (i : Nat) (hi : i < ts.length) :
    W.cell? ⟨g, i * 5, none⟩ = some (.int .i64 ts[i].b.kind) ∧ W.cell? ⟨g, i * 5 + 1, none⟩ = some (.int .i64 ts[i].b.int) ∧ W.cell? ⟨g, i * 5 + 2, none⟩ = some (.string ⟨ts[i].b.text.toArray⟩) ∧ W.cell? ⟨g, i * 5 + 3, none⟩ = some (.int .i64 (ts[i].at_ : Int)) ∧ W.cell? ⟨g, i * 5 + 4, none⟩ = some (.int .i64 (ts[i].en : Int)) := by
  have key : ∀ j (hj : j < 5), W.cell? ⟨g, i * 5 + j, none⟩ = (tokC ts[i])[j]? := fun j hj => by
    have h1 := toksC_get ts i j hi hj
    have h2 : (tokC ts[i])[j]? = some ((tokC ts[i])[j]'(by simp [tokC]; omega)) := List.getElem?_eq_getElem _
    rw [h2] at h1 ⊢
    have := h.cells (g := g) rfl _ _ h1
    simpa [add_plain] using this
  exact ⟨key 0 (by omega), key 1 (by omega), key 2 (by omega), key 3 (by omega), key 4 (by omega)⟩
theorem scan_two : scan [49, 32, 120] = .ok [⟨⟨1, 1, []⟩, 0, 1⟩, ⟨⟨5, 0, [120]⟩, 2, 3⟩] := rfl
set_option maxRecDepth 100000 in
theorem scans_any (w : World) :
    Calls Tryd.prog 8 #[] w fun r w' => r = .returned (.bool true) ∧ Below w.heap.size w w' := by
  have HS := Lib.hid (Scan_any ⟨#[49, 32, 120]⟩ w)
  rw [show bys ⟨#[49, 32, 120]⟩ = [49, 32, 120] from rfl, scan_two] at HS
  go_enter Tryd.func8, Tryd.ntmps8
  go_wp2_with fail
  refine HS.out.mono ?_
  rintro e w2 ⟨hb, v, rfl, ho⟩
  obtain ⟨g, cap, rfl, -, -⟩ := ho.form (by decide)
  obtain ⟨-, i0, -⟩ := toks_cells ho 0 (by decide)
  obtain ⟨-, -, i1, -⟩ := toks_cells ho 1 (by decide)
  have hl := (own_lt ho g rfl).2
  have HB := Lib.hid hb
  clear hb ho
  simp at i0 i1
  go_wp2_with fail
  refine bodyPost_ret (v := .bool true) (by simp [results, Tryd.results8, go_sem]) rfl ?_
  exact ⟨rfl, HB.out⟩
end Go.Proofs.YtenhaohooknkfaaDoor
