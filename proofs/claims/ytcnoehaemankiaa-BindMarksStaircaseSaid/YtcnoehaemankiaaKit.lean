/- Small words on memory that this seat's walks use: a block of the call's own that is known whole; casts; endings. No program is in sight here. -/
import Derived.WalkKit
import Derived.WalkLawsBesides
import Derived.WalkSpells
import Derived.Lib.Hide
import Derived.Maps.AppendAt
import Derived.Deep.AppendLies
import Derived.Deep.Draws
import Derived.Laws.Rows
namespace Go.Proofs.Ytcnoehaemankiaa
open Go.RowKit

/-- Block g is just these cells of element type t, none of them frozen. -/
def Blk (w : World) (g : Nat) (t : TypeId) (cs : Array Value) : Prop := w.heap[g]? = some (.cells cs t (0, 0))

section
variable {w w' : World} {g : Nat} {t : TypeId} {cs : Array Value}
theorem Blk.lt (h : Blk w g t cs) : g < w.heap.size := by
  rcases Nat.lt_or_ge g w.heap.size with hlt | hge
  · exact hlt
  · unfold Blk at h; rw [Array.getElem?_eq_none hge] at h; cases h
theorem Blk.cell (h : Blk w g t cs) (i : Nat) : w.cell? ⟨g, i, none⟩ = cs[i]? := cell_of_row w g i cs t (0, 0) h
theorem Blk.frozen (h : Blk w g t cs) (i : Nat) : w.frozen? ⟨g, i, none⟩ = false := by unfold Blk at h; simp [World.frozen?, h]
theorem Blk.new (w : World) (t : TypeId) (cs : Array Value) : Blk (w.alloc (.cells cs t)) w.heap.size t cs := heap_alloc_new w _
theorem Blk.drew (h : Blk w g t cs) : Blk w.drew g t cs := h
theorem Blk.drewN (h : Blk w g t cs) (n : Nat) : Blk (w.drewN n) g t cs := h
theorem Blk.alloc (h : Blk w g t cs) (o : Obj) : Blk (w.alloc o) g t cs := (Below.heap_alloc w o g h.lt).trans h
theorem Blk.put (h : Blk w g t cs) (i : Nat) (u : Value) : Blk (w.setCell ⟨g, i, none⟩ u) g t (cs.setIfInBounds i u) := by
  unfold Blk at h ⊢; simp [World.setCell, Array.getElem?_modify, h]
theorem Blk.far (h : Blk w g t cs) {p : Addr} (hp : g ≠ p.block) (u : Value) : Blk (w.setCell p u) g t cs := (Below.heap_setCell w p u g hp).trans h
theorem Blk.below {B : Nat} (h : Blk w g t cs) (hb : Below B w w') (hg : g < B) : Blk w' g t cs := (hb.block g hg).trans h
theorem Blk.grown {row : Option Nat} (h : Blk w g t cs) (hb : w.grownBy w' row) (hg : some g ≠ row) : Blk w' g t cs := (hb.block g h.lt hg).trans h
end

/-- From its head on block g holds these cells, and none of them is frozen. -/
structure Row (w : World) (g : Nat) (vs : List Value) : Prop where
  lt : g < w.heap.size
  cell : ∀ i v, vs[i]? = some v → w.cell? ⟨g, i, none⟩ = some v
  free : ∀ i, i < vs.length → w.frozen? ⟨g, i, none⟩ = false

section
variable {w w' : World} {g : Nat} {vs : List Value}
theorem Blk.row {t : TypeId} {cs : Array Value} (h : Blk w g t cs) : Row w g cs.toList :=
  ⟨h.lt, fun i v hv => by rw [h.cell i]; simpa using hv, fun i _ => h.frozen i⟩
theorem Row.at_ (h : Row w g vs) {i : Nat} (hi : i < vs.length) : w.cell? ⟨g, i, none⟩ = some vs[i] := h.cell i _ (List.getElem?_eq_getElem hi)
theorem Row.keep (h : Row w g vs) (hs : g < w'.heap.size) (hb : w'.heap[g]? = w.heap[g]?) : Row w' g vs :=
  ⟨hs, fun i v hv => (World.cell?_of_block (w := w) (a := ⟨g, i, none⟩) hb).trans (h.cell i v hv), fun i hi => (World.frozen?_of_block (w := w) (a := ⟨g, i, none⟩) hb).trans (h.free i hi)⟩
theorem Row.drew (h : Row w g vs) : Row w.drew g vs := ⟨h.lt, h.cell, h.free⟩
theorem Row.drewN (h : Row w g vs) (n : Nat) : Row (w.drewN n) g vs := ⟨h.lt, h.cell, h.free⟩
theorem Row.alloc (h : Row w g vs) (o : Obj) : Row (w.alloc o) g vs := h.keep (by have := h.lt; simp; omega) (Below.heap_alloc w o g h.lt)
theorem Row.far (h : Row w g vs) {p : Addr} (hp : g ≠ p.block) (u : Value) : Row (w.setCell p u) g vs := h.keep (by simpa [World.setCell] using h.lt) (Below.heap_setCell w p u g hp)
theorem Row.below {B : Nat} (h : Row w g vs) (hb : Below B w w') (hg : g < B) : Row w' g vs := h.keep (Nat.lt_of_lt_of_le h.lt hb.size) (hb.block g hg)
theorem Row.grown {row : Option Nat} (h : Row w g vs) (hb : w.grownBy w' row) (hg : some g ≠ row) : Row w' g vs := h.keep (Nat.lt_of_lt_of_le h.lt hb.size) (hb.block g h.lt hg)
theorem Row.put (h : Row w g vs) {k : Nat} (hk : k < vs.length) (u : Value) : Row (w.setCell ⟨g, k, none⟩ u) g (vs.set k u) := by
  refine ⟨by simpa [World.setCell] using h.lt, fun i v hv => ?_, fun i hi => ?_⟩
  · rw [List.getElem?_set] at hv
    by_cases hik : k = i
    · subst hik
      rw [if_pos rfl, if_pos hk] at hv
      injection hv with hv
      subst hv
      exact World.cell?_setCell_same _ _ _ (h.at_ hk)
    · rw [if_neg hik] at hv
      rw [World.cell?_setCell_other w _ _ u (by simp)]
      exact h.cell i v hv
  · rw [World.frozen?_setCell]
    exact h.free i (by simpa using hi)
end

/-- A row of bytes; a row of ints. -/
def BRow (w : World) (g : Nat) (l : List UInt8) : Prop := Row w g (l.map fun b => Value.int .u8 (b.toNat : Int))
def IRow (w : World) (g : Nat) (l : List Int) : Prop := Row w g (l.map fun z => Value.int .i64 z)
section
variable {w w' : World} {g : Nat}
theorem BRow.at_ {l : List UInt8} (h : BRow w g l) {i : Nat} (hi : i < l.length) : w.cell? ⟨g, i, none⟩ = some (.int .u8 ((l.getD i 0).toNat : Int)) := by
  refine Row.cell h i _ ?_
  rw [List.getElem?_map, List.getElem?_eq_getElem hi, List.getD_eq_getElem?_getD, List.getElem?_eq_getElem hi]; rfl
theorem IRow.at_ {l : List Int} (h : IRow w g l) {i : Nat} (hi : i < l.length) : w.cell? ⟨g, i, none⟩ = some (.int .i64 (l.getD i 0)) := by
  refine Row.cell h i _ ?_
  rw [List.getElem?_map, List.getElem?_eq_getElem hi, List.getD_eq_getElem?_getD, List.getElem?_eq_getElem hi]; rfl
theorem BRow.free_ {l : List UInt8} (h : BRow w g l) {i : Nat} (hi : i < l.length) : w.frozen? ⟨g, i, none⟩ = false := Row.free h i (by simpa using hi)
theorem IRow.free_ {l : List Int} (h : IRow w g l) {i : Nat} (hi : i < l.length) : w.frozen? ⟨g, i, none⟩ = false := Row.free h i (by simpa using hi)
theorem BRow.put {l : List UInt8} (h : BRow w g l) {k : Nat} (hk : k < l.length) (c : UInt8) : BRow (w.setCell ⟨g, k, none⟩ (.int .u8 (c.toNat : Int))) g (l.set k c) := by
  have := Row.put h (k := k) (by simpa using hk) (.int .u8 (c.toNat : Int))
  unfold BRow; rw [List.map_set]; exact this
theorem IRow.put {l : List Int} (h : IRow w g l) {k : Nat} (hk : k < l.length) (z : Int) : IRow (w.setCell ⟨g, k, none⟩ (.int .i64 z)) g (l.set k z) := by
  have := Row.put h (k := k) (by simpa using hk) (.int .i64 z)
  unfold IRow; rw [List.map_set]; exact this
end

/-- '[]byte(s)' makes a row of its own that holds the bytes of s. -/
theorem run_bytes {P : Program} (w : World) (src dst e : TypeId) (s : ByteArray) (hs : P.underlying src = some .string) (hd : P.underlying dst = some (.slice e)) (he : P.underlying e = some (.int .u8)) :
    ∃ (cap : Nat) (w1 : World), (convert src dst (.string s)).run P w = .ok (.slice (some ⟨w.heap.size, 0, none⟩) s.size cap) w1 ∧ Below w.heap.size w w1 ∧ w.heap.size < w1.heap.size ∧
      BRow w1 w.heap.size s.data.toList := by
  refine ⟨_, _, run_bytes_of_string w src dst e s hs hd he, ((Below.refl _ _).drew).alloc (Nat.le_refl _) _, by simp, ?_⟩
  generalize grownCap w s.size 0 e = cap
  have hsz : s.size ≤ (bytesRow s cap).size := by unfold bytesRow; rw [Array.size_append, Array.size_map]; exact Nat.le_add_right _ _
  have hh : (w.drew.alloc (.cells (bytesRow s cap) e ((bytesRow s cap).size, (bytesRow s cap).size + 1))).heap[w.heap.size]? = some (.cells (bytesRow s cap) e ((bytesRow s cap).size, (bytesRow s cap).size + 1)) := heap_alloc_new w.drew _
  refine ⟨by simp, fun i v hv => ?_, fun i hi => ?_⟩
  · rw [cell_of_row _ _ i _ _ _ hh]
    have hi : i < s.size := by have := (List.getElem?_eq_some_iff.1 hv).1; simpa using this
    rw [bytesRow, Array.getElem?_append_left (by simpa using hi), ← hv]
    simp
  · have hi' : i < s.size := by simpa using hi
    simp only [World.frozen?, hh]
    simp; omega

/-- Nothing but draws. -/
def Same (w w' : World) : Prop := ∃ n, w' = w.drewN n
theorem Same.refl (w : World) : Same w w := ⟨0, rfl⟩
theorem Same.drewN (w : World) (n : Nat) : Same w (w.drewN n) := ⟨n, rfl⟩
theorem Same.below {w w' : World} (h : Same w w') (B : Nat) : Below B w w' := by
  obtain ⟨n, rfl⟩ := h; exact ⟨rfl, rfl, rfl, Nat.le_refl _, fun _ _ => rfl⟩

theorem below_drewN {B : Nat} {a w : World} (h : Below B a w) (n : Nat) : Below B a (w.drewN n) := ⟨h.os, h.tape, h.output, h.size, h.block⟩

theorem endInt {k : IntKind} {a b : Int} (h : a = b) : Ending.returned (.int k a) = .returned (.int k b) := by rw [h]
theorem endBool {a b : Bool} (h : a = b) : Ending.returned (.bool a) = .returned (.bool b) := by rw [h]
theorem valInt {k : IntKind} {a b : Int} (h : a = b) : Value.int k a = Value.int k b := by rw [h]

theorem cell_lt (w : World) (o : Obj) (p : Addr) (h : p.block < w.heap.size) : (w.alloc o).cell? p = w.cell? p := World.cell?_alloc_lt w o p h
end Go.Proofs.Ytcnoehaemankiaa
