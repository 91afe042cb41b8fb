/- Piles that a call builds, one by one. -/
import Derived.Test.YtjmanooedgfbaaaDoorSmall
import Derived.Test.YtjmanooedgfbaaaDoorCat
import Derived.RangeFuncBox
namespace Go.Proofs.YtjmanooedgfbaaaDoor
open Go.RowKit
theorem eSl : ElemT Tryd.prog 65 58 (.slice none 0 0) 24 := ElemT.mk_ Tryd.underlying65 (by kernel_rfl) rfl
/-- v owns a row (in a block from base on) of slice values that read as the piles ps, all of them in blocks from base on. -/
structure PB (base : Nat) (wr : World) (v : Value) (vals : List Value) (ps : List (List Leaf)) : Prop where
  len : vals.length = ps.length
  own : wr.ownsRow base 58 1 v vals.length vals
  inn : ∀ i u, vals[i]? = some u → Lv wr (fun b => some b ≠ v.ownBlock ∧ base ≤ b) u (ps.getD i [])
theorem PB.nil (base : Nat) (w : World) : PB base w (.slice none 0 0) [] [] := ⟨rfl, ⟨rfl, .inl ⟨rfl, rfl⟩⟩, fun i u h => by simp at h⟩
theorem PB.later {base : Nat} {w w' : World} {v : Value} {vals : List Value} {ps : List (List Leaf)} (h : PB base w v vals ps) (hb : Below w.heap.size w w') : PB base w' v vals ps :=
  ⟨h.len, own_below h.own hb, fun i u hu => SlM.later (h.inn i u hu) hb⟩
theorem PB.alloc {base : Nat} {w : World} {v : Value} {vals : List Value} {ps : List (List Leaf)} (h : PB base w v vals ps) (o : Obj) : PB base (w.alloc o) v vals ps := h.later ((Below.refl _ _).alloc (Nat.le_refl _) _)
theorem PB.far {base : Nat} {w : World} {v : Value} {vals : List Value} {ps : List (List Leaf)} (h : PB base w v vals ps) {p : Addr} (hB : p.block < base) (u : Value) : PB base (w.setCell p u) v vals ps :=
  ⟨h.len, own_setCell h.own (.inl hB) u, fun i u hu => SlM.far (h.inn i u hu) (fun hp => by have := hp.2; omega) _⟩
theorem PB.pl {base : Nat} {w : World} {v : Value} {vals : List Value} {ps : List (List Leaf)} (h : PB base w v vals ps) : Pl (fun b => base ≤ b) w v vals ps :=
  ⟨h.len, (Sl.of_own h.own).mono fun _ _ h => h.2, fun i u hu => SlM.mono (h.inn i u hu) fun _ _ h => h.2⟩
theorem PB.push {base : Nat} {w wa w1 : World} {v v1 u : Value} {vals : List Value} {ps : List (List Leaf)} {p : List Leaf} {ob : Obj} (h : PB base w v vals ps) (hw : Below w.heap.size w wa) (hB : base ≤ w.heap.size)
    (hu : Lv wa (fun b => w.heap.size ≤ b) u p) (hown : w1.ownsRow base 58 1 v1 (vals.length + 1) (vals ++ [u])) (hg : (wa.alloc ob).grownBy w1 v.ownBlock) (hk : v1.ownBlock = v.ownBlock ∨ v1.ownBlock = some (wa.alloc ob).heap.size) :
    PB base w1 v1 (vals ++ [u]) (ps ++ [p]) := by
  have hsz := hw.size
  refine ⟨by simp [h.len], by simpa using hown, fun i x hx => ?_⟩
  have key : Lv (wa.alloc ob) (fun b => some b ≠ v.ownBlock ∧ some b ≠ v1.ownBlock ∧ base ≤ b) x ((ps ++ [p]).getD i []) := by
    rcases Nat.lt_or_ge i vals.length with hi | hi
    · rw [List.getElem?_append_left hi] at hx
      have e : (ps ++ [p]).getD i [] = ps.getD i [] := by
        rw [List.getD_eq_getElem?_getD, List.getElem?_append_left (by rw [← h.len]; exact hi), ← List.getD_eq_getElem?_getD]
      rw [e]
      have h1 := SlM.later (h.inn i x hx) hw
      have h2 := SlM.alloc (SlM.mono (ok' := fun b => (some b ≠ v.ownBlock ∧ base ≤ b) ∧ b < wa.heap.size) h1 fun b hb' h => ⟨h, hb'⟩) ob
      refine SlM.mono h2 fun b _ ⟨h, hlt⟩ => ⟨h.1, ?_, h.2⟩
      rcases hk with e | e
      · rw [e]; exact h.1
      · rw [e]; simp; omega
    · rw [List.getElem?_append_right hi] at hx
      have hi' : i = vals.length := by
        have := (List.getElem?_eq_some_iff.1 hx).1
        simp at this; omega
      subst hi'
      rw [Nat.sub_self] at hx
      simp at hx
      subst hx
      have e : (ps ++ [p]).getD vals.length [] = p := by
        rw [List.getD_eq_getElem?_getD, List.getElem?_append_right (by rw [h.len]; exact Nat.le_refl _), h.len]; simp
      rw [e]
      have h2 := SlM.alloc (SlM.mono (ok' := fun b => w.heap.size ≤ b ∧ b < wa.heap.size) hu fun b hb' h => ⟨h, hb'⟩) ob
      have hne : ∀ b, w.heap.size ≤ b → some b ≠ v.ownBlock := fun b hb' e => by have := (own_lt h.own b e.symm).2; omega
      refine SlM.mono h2 fun b _ ⟨h, hlt⟩ => ⟨hne b h, ?_, by omega⟩
      rcases hk with e | e
      · rw [e]; exact hne b h
      · rw [e]; simp; omega
  exact SlM.mono (SlM.grown key hg fun b h => h.1) fun b _ h => h.2
/-- A call returns the sheet S in new memory. -/
def SheetPost (S : Sheet) (w : World) (e : Ending) (w' : World) : Prop :=
  ∃ v vals, e = .returned (.agg #[.int .i64 (S.cols : Int), .int .i64 (S.rows : Int), v]) ∧ Pl (fun b => w.heap.size ≤ b) w' v vals (pilesOf S) ∧ Below w.heap.size w w'
/-- The first rows of the piles, and in the next row the first columns. -/
def rowsTo (S : Sheet) (r : Nat) : List (List Leaf) := (List.range r).flatMap fun r => (List.range S.cols).map fun c => S.P c r
def colsTo (S : Sheet) (r c : Nat) : List (List Leaf) := rowsTo S r ++ (List.range c).map fun c => S.P c r
theorem colsTo_zero (S : Sheet) (r : Nat) : colsTo S r 0 = rowsTo S r := by simp [colsTo]
theorem colsTo_succ (S : Sheet) (r c : Nat) : colsTo S r (c + 1) = colsTo S r c ++ [S.P c r] := by simp [colsTo, List.range_succ]
theorem colsTo_all (S : Sheet) (r : Nat) : colsTo S r S.cols = rowsTo S (r + 1) := by simp [colsTo, rowsTo, List.range_succ]
theorem rowsTo_all (S : Sheet) : rowsTo S S.rows = pilesOf S := rfl
theorem rowsTo_zero (S : Sheet) : rowsTo S 0 = [] := rfl
theorem rowsTo_length (S : Sheet) (r : Nat) : (rowsTo S r).length = r * S.cols := by
  unfold rowsTo; rw [List.length_flatMap]; simp only [List.length_map, List.length_range]; rw [sum_range, sumTo_const]
theorem colsTo_length (S : Sheet) (r c : Nat) : (colsTo S r c).length = r * S.cols + c := by simp [colsTo, rowsTo_length]
end Go.Proofs.YtjmanooedgfbaaaDoor
