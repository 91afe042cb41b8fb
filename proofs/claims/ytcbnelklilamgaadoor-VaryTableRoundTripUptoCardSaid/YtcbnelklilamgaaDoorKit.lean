/- Small words on memory that this seat's walks use: a block of the call's own that is known whole; casts; endings. No program is in sight here. -/
import Derived.WalkKit
import Derived.WalkLawsBesides
import Derived.WalkSpells
import Derived.Lib.Hide
import Derived.Maps.AppendAt
import Derived.Deep.AppendLies
import Derived.Deep.Draws
import Derived.Laws.Rows
namespace Go.Proofs.YtcbnelklilamgaaDoor
open Go.RowKit

/-- Block g is just these cells of element type t, none of them frozen. -/
def Blk (w : World) (g : Nat) (t : TypeId) (cs : Array Value) : Prop := w.heap[g]? = some (.cells cs t (0, 0))

section
variable {w w' : World} {g : Nat} {t : TypeId} {cs : Array Value}
theorem Blk.lt (h : Blk w g t cs) : g < w.heap.size := by
  rcases Nat.lt_or_ge g w.heap.size with hlt | hge
  · exact hlt
  · unfold Blk at h; rw [Array.getElem?_eq_none hge] at h; cases h
theorem Blk.cell (h : Blk w g t cs) (i : Nat) : w.cell? ⟨g, i, none⟩ = cs[i]? := cell_of_row w g i cs t (0, 0) h
theorem Blk.frozen (h : Blk w g t cs) (i : Nat) : w.frozen? ⟨g, i, none⟩ = false := by unfold Blk at h; simp [World.frozen?, h]
theorem Blk.new (w : World) (t : TypeId) (cs : Array Value) : Blk (w.alloc (.cells cs t)) w.heap.size t cs := heap_alloc_new w _
theorem Blk.drew (h : Blk w g t cs) : Blk w.drew g t cs := h
theorem Blk.drewN (h : Blk w g t cs) (n : Nat) : Blk (w.drewN n) g t cs := h
theorem Blk.alloc (h : Blk w g t cs) (o : Obj) : Blk (w.alloc o) g t cs := (Below.heap_alloc w o g h.lt).trans h
theorem Blk.put (h : Blk w g t cs) (i : Nat) (u : Value) : Blk (w.setCell ⟨g, i, none⟩ u) g t (cs.setIfInBounds i u) := by
  unfold Blk at h ⊢; simp [World.setCell, Array.getElem?_modify, h]
theorem Blk.far (h : Blk w g t cs) {p : Addr} (hp : g ≠ p.block) (u : Value) : Blk (w.setCell p u) g t cs := (Below.heap_setCell w p u g hp).trans h
theorem Blk.below {B : Nat} (h : Blk w g t cs) (hb : Below B w w') (hg : g < B) : Blk w' g t cs := (hb.block g hg).trans h
theorem Blk.grown {row : Option Nat} (h : Blk w g t cs) (hb : w.grownBy w' row) (hg : some g ≠ row) : Blk w' g t cs := (hb.block g h.lt hg).trans h
end

/-- From its head on block g holds these cells, and none of them is frozen. -/
structure Row (w : World) (g : Nat) (vs : List Value) : Prop where
  lt : g < w.heap.size
  cell : ∀ i v, vs[i]? = some v → w.cell? ⟨g, i, none⟩ = some v
  free : ∀ i, i < vs.length → w.frozen? ⟨g, i, none⟩ = false

section
variable {w w' : World} {g : Nat} {vs : List Value}
theorem Blk.row {t : TypeId} {cs : Array Value} (h : Blk w g t cs) : Row w g cs.toList :=
  ⟨h.lt, fun i v hv => by rw [h.cell i]; simpa using hv, fun i _ => h.frozen i⟩
theorem Row.at_ (h : Row w g vs) {i : Nat} (hi : i < vs.length) : w.cell? ⟨g, i, none⟩ = some vs[i] := h.cell i _ (List.getElem?_eq_getElem hi)
theorem Row.keep (h : Row w g vs) (hs : g < w'.heap.size) (hb : w'.heap[g]? = w.heap[g]?) : Row w' g vs :=
  ⟨hs, fun i v hv => (World.cell?_of_block (w := w) (a := ⟨g, i, none⟩) hb).trans (h.cell i v hv), fun i hi => (World.frozen?_of_block (w := w) (a := ⟨g, i, none⟩) hb).trans (h.free i hi)⟩
theorem Row.drew (h : Row w g vs) : Row w.drew g vs := ⟨h.lt, h.cell, h.free⟩
theorem Row.drewN (h : Row w g vs) (n : Nat) : Row (w.drewN n) g vs := ⟨h.lt, h.cell, h.free⟩
theorem Row.alloc (h : Row w g vs) (o : Obj) : Row (w.alloc o) g vs := h.keep (by have := h.lt; simp; omega) (Below.heap_alloc w o g h.lt)
theorem Row.far (h : Row w g vs) {p : Addr} (hp : g ≠ p.block) (u : Value) : Row (w.setCell p u) g vs := h.keep (by simpa [World.setCell] using h.lt) (Below.heap_setCell w p u g hp)
theorem Row.below {B : Nat} (h : Row w g vs) (hb : Below B w w') (hg : g < B) : Row w' g vs := h.keep (Nat.lt_of_lt_of_le h.lt hb.size) (hb.block g hg)
theorem Row.grown {row : Option Nat} (h : Row w g vs) (hb : w.grownBy w' row) (hg : some g ≠ row) : Row w' g vs := h.keep (Nat.lt_of_lt_of_le h.lt hb.size) (hb.block g h.lt hg)
theorem Row.put (h : Row w g vs) {k : Nat} (hk : k < vs.length) (u : Value) : Row (w.setCell ⟨g, k, none⟩ u) g (vs.set k u) := by
  refine ⟨by simpa [World.setCell] using h.lt, fun i v hv => ?_, fun i hi => ?_⟩
  · rw [List.getElem?_set] at hv
    by_cases hik : k = i
    · subst hik
      rw [if_pos rfl, if_pos hk] at hv
      injection hv with hv
      subst hv
      exact World.cell?_setCell_same _ _ _ (h.at_ hk)
    · rw [if_neg hik] at hv
      rw [World.cell?_setCell_other w _ _ u (by simp)]
      exact h.cell i v hv
  · rw [World.frozen?_setCell]
    exact h.free i (by simpa using hi)
end

/-- A row of bytes; a row of ints. -/
def BRow (w : World) (g : Nat) (l : List UInt8) : Prop := Row w g (l.map fun b => Value.int .u8 (b.toNat : Int))
def IRow (w : World) (g : Nat) (l : List Int) : Prop := Row w g (l.map fun z => Value.int .i64 z)
section
variable {w w' : World} {g : Nat}
theorem BRow.at_ {l : List UInt8} (h : BRow w g l) {i : Nat} (hi : i < l.length) : w.cell? ⟨g, i, none⟩ = some (.int .u8 ((l.getD i 0).toNat : Int)) := by
  refine Row.cell h i _ ?_
  rw [List.getElem?_map, List.getElem?_eq_getElem hi, List.getD_eq_getElem?_getD, List.getElem?_eq_getElem hi]; rfl
theorem IRow.at_ {l : List Int} (h : IRow w g l) {i : Nat} (hi : i < l.length) : w.cell? ⟨g, i, none⟩ = some (.int .i64 (l.getD i 0)) := by
  refine Row.cell h i _ ?_
  rw [List.getElem?_map, List.getElem?_eq_getElem hi, List.getD_eq_getElem?_getD, List.getElem?_eq_getElem hi]; rfl
theorem BRow.free_ {l : List UInt8} (h : BRow w g l) {i : Nat} (hi : i < l.length) : w.frozen? ⟨g, i, none⟩ = false := Row.free h i (by simpa using hi)
theorem IRow.free_ {l : List Int} (h : IRow w g l) {i : Nat} (hi : i < l.length) : w.frozen? ⟨g, i, none⟩ = false := Row.free h i (by simpa using hi)
theorem BRow.put {l : List UInt8} (h : BRow w g l) {k : Nat} (hk : k < l.length) (c : UInt8) : BRow (w.setCell ⟨g, k, none⟩ (.int .u8 (c.toNat : Int))) g (l.set k c) := by
  have := Row.put h (k := k) (by simpa using hk) (.int .u8 (c.toNat : Int))
  unfold BRow; rw [List.map_set]; exact this
theorem IRow.put {l : List Int} (h : IRow w g l) {k : Nat} (hk : k < l.length) (z : Int) : IRow (w.setCell ⟨g, k, none⟩ (.int .i64 z)) g (l.set k z) := by
  have := Row.put h (k := k) (by simpa using hk) (.int .i64 z)
  unfold IRow; rw [List.map_set]; exact this
end

/-- '[]byte(s)' makes a row of its own that holds the bytes of s. -/
theorem run_bytes {P : Program} (w : World) (src dst e : TypeId) (s : ByteArray) (hs : P.underlying src = some .string) (hd : P.underlying dst = some (.slice e)) (he : P.underlying e = some (.int .u8)) :
    ∃ (cap : Nat) (w1 : World), (convert src dst (.string s)).run P w = .ok (.slice (some ⟨w.heap.size, 0, none⟩) s.size cap) w1 ∧ Below w.heap.size w w1 ∧ w.heap.size < w1.heap.size ∧
      BRow w1 w.heap.size s.data.toList := by
  refine ⟨_, _, run_bytes_of_string w src dst e s hs hd he, ((Below.refl _ _).drew).alloc (Nat.le_refl _) _, by simp, ?_⟩
  generalize grownCap w s.size 0 e = cap
  have hsz : s.size ≤ (bytesRow s cap).size := by unfold bytesRow; rw [Array.size_append, Array.size_map]; exact Nat.le_add_right _ _
  have hh : (w.drew.alloc (.cells (bytesRow s cap) e ((bytesRow s cap).size, (bytesRow s cap).size + 1))).heap[w.heap.size]? = some (.cells (bytesRow s cap) e ((bytesRow s cap).size, (bytesRow s cap).size + 1)) := heap_alloc_new w.drew _
  refine ⟨by simp, fun i v hv => ?_, fun i hi => ?_⟩
  · rw [cell_of_row _ _ i _ _ _ hh]
    have hi : i < s.size := by have := (List.getElem?_eq_some_iff.1 hv).1; simpa using this
    rw [bytesRow, Array.getElem?_append_left (by simpa using hi), ← hv]
    simp
  · have hi' : i < s.size := by simpa using hi
    simp only [World.frozen?, hh]
    simp; omega

/-- Nothing but draws. -/
def Same (w w' : World) : Prop := ∃ n, w' = w.drewN n
theorem Same.refl (w : World) : Same w w := ⟨0, rfl⟩
theorem Same.drewN (w : World) (n : Nat) : Same w (w.drewN n) := ⟨n, rfl⟩
theorem Same.drewN_ {w w' : World} (h : Same w w') (n : Nat) : Same w (w'.drewN n) := by obtain ⟨m, rfl⟩ := h; exact ⟨m + n, by rw [World.drewN_drewN]⟩
theorem Same.trans {a b c : World} (h : Same a b) (k : Same b c) : Same a c := by obtain ⟨n, rfl⟩ := k; exact h.drewN_ n
theorem Same.below {w w' : World} (h : Same w w') (B : Nat) : Below B w w' := by
  obtain ⟨n, rfl⟩ := h; exact ⟨rfl, rfl, rfl, Nat.le_refl _, fun _ _ => rfl⟩

theorem below_drewN {B : Nat} {a w : World} (h : Below B a w) (n : Nat) : Below B a (w.drewN n) := ⟨h.os, h.tape, h.output, h.size, h.block⟩

theorem endInt {k : IntKind} {a b : Int} (h : a = b) : Ending.returned (.int k a) = .returned (.int k b) := by rw [h]
theorem endBool {a b : Bool} (h : a = b) : Ending.returned (.bool a) = .returned (.bool b) := by rw [h]
theorem end2 {k : IntKind} {a b c d : Int} (h : a = b) (h2 : c = d) : Ending.returned (.tuple #[.int k a, .int k c]) = .returned (.tuple #[.int k b, .int k d]) := by rw [h, h2]
theorem valInt {k : IntKind} {a b : Int} (h : a = b) : Value.int k a = Value.int k b := by rw [h]

theorem cell_lt (w : World) (o : Obj) (p : Addr) (h : p.block < w.heap.size) : (w.alloc o).cell? p = w.cell? p := World.cell?_alloc_lt w o p h
/-- A slice value whose elements are xs, in a block of which ok is known. -/
def Sl (w : World) (ok : Nat → Prop) (v : Value) (xs : List Value) : Prop :=
  ∃ A cap, v = .slice A xs.length cap ∧ xs.length ≤ cap ∧ cap ≤ maxLen ∧
    (0 < xs.length → ∃ ad, A = some ad ∧ ok ad.block ∧ ad.block < w.heap.size ∧ ∀ i u, xs[i]? = some u → w.cell? (ad.add i) = some u)

theorem add_block (a : Addr) (n : Nat) : (a.add n).block = a.block := by unfold Addr.add; split <;> rfl
theorem add_plain (g o i : Nat) : (⟨g, o, none⟩ : Addr).add i = ⟨g, o + i, none⟩ := by unfold Addr.add; split <;> simp_all

section
variable {w w' : World} {ok ok' : Nat → Prop} {v : Value} {xs : List Value}
theorem Sl.nil (w : World) (ok : Nat → Prop) : Sl w ok (.slice none 0 0) [] := ⟨none, 0, rfl, Nat.le_refl _, by simp, fun h => absurd h (by simp)⟩
theorem Sl.mono (h : Sl w ok v xs) (hk : ∀ b, b < w.heap.size → ok b → ok' b) : Sl w ok' v xs := by
  obtain ⟨A, cap, hv, h1, h2, h3⟩ := h
  exact ⟨A, cap, hv, h1, h2, fun hn => by obtain ⟨ad, ha, hb, hl, hc⟩ := h3 hn; exact ⟨ad, ha, hk _ hl hb, hl, hc⟩⟩
theorem Sl.keep (h : Sl w ok v xs) (hs : w.heap.size ≤ w'.heap.size) (hk : ∀ b, ok b → b < w.heap.size → w'.heap[b]? = w.heap[b]?) : Sl w' ok v xs := by
  obtain ⟨A, cap, hv, h1, h2, h3⟩ := h
  refine ⟨A, cap, hv, h1, h2, fun hn => ?_⟩
  obtain ⟨ad, ha, hb, hl, hc⟩ := h3 hn
  refine ⟨ad, ha, hb, Nat.lt_of_lt_of_le hl hs, fun i u hu => ?_⟩
  rw [World.cell?_of_block (w := w) (by rw [add_block]; exact hk _ hb hl)]
  exact hc i u hu
theorem Sl.drew (h : Sl w ok v xs) : Sl w.drew ok v xs := h
theorem Sl.drewN (h : Sl w ok v xs) (n : Nat) : Sl (w.drewN n) ok v xs := h
theorem Sl.same (h : Sl w ok v xs) (hs : Same w w') : Sl w' ok v xs := by obtain ⟨n, rfl⟩ := hs; exact h
theorem Sl.alloc (h : Sl w ok v xs) (o : Obj) : Sl (w.alloc o) ok v xs := h.keep (by simp) fun b _ hl => Below.heap_alloc w o b hl
theorem Sl.below {B : Nat} (h : Sl w ok v xs) (hb : Below B w w') (hB : ∀ b, ok b → b < w.heap.size → b < B) : Sl w' ok v xs := h.keep hb.size fun b ho hl => hb.block b (hB b ho hl)
theorem Sl.later (h : Sl w ok v xs) (hb : Below w.heap.size w w') : Sl w' ok v xs := h.keep hb.size fun b _ hl => hb.block b hl
theorem Sl.grown {row : Option Nat} (h : Sl w ok v xs) (hb : w.grownBy w' row) (hr : ∀ b, ok b → some b ≠ row) : Sl w' ok v xs := h.keep hb.size fun b ho hl => hb.block b hl (hr b ho)
theorem Sl.far (h : Sl w ok v xs) {p : Addr} (hp : ¬ ok p.block) (u : Value) : Sl (w.setCell p u) ok v xs :=
  h.keep (by simp [World.setCell]) fun b ho _ => Below.heap_setCell w p u b (fun e => hp (e ▸ ho))
theorem Sl.form (h : Sl w ok v xs) : ∃ A cap, v = .slice A xs.length cap := by obtain ⟨A, cap, hv, _⟩ := h; exact ⟨A, cap, hv⟩
/-- The slice opened where it holds an element: its address and each cell. -/
theorem Sl.open_ (h : Sl w ok v xs) (hn : 0 < xs.length) : ∃ ad cap, v = .slice (some ad) xs.length cap ∧ ok ad.block ∧ ad.block < w.heap.size ∧ ∀ i u, xs[i]? = some u → w.cell? (ad.add i) = some u := by
  obtain ⟨A, cap, hv, _, _, h3⟩ := h
  obtain ⟨ad, rfl, hb, hl, hc⟩ := h3 hn
  exact ⟨ad, cap, hv, hb, hl, hc⟩
theorem Sl.addr {A : Option Addr} {n c : Nat} (h : Sl w ok (.slice A n c) xs) (hn : 0 < xs.length) : ∃ ad, A = some ad ∧ ok ad.block ∧ ad.block < w.heap.size ∧ ∀ i u, xs[i]? = some u → w.cell? (ad.add i) = some u := by
  obtain ⟨ad, cap, hv, hb, hl, hc⟩ := h.open_ hn
  injection hv with hA
  exact ⟨ad, hA, hb, hl, hc⟩
theorem Sl.cap_le {A : Option Addr} {n c : Nat} (h : Sl w ok (.slice A n c) xs) : xs.length = n ∧ n ≤ c ∧ c ≤ maxLen := by
  obtain ⟨A', cap, hv, h1, h2, _⟩ := h
  injection hv with _ hn hc
  subst hn; subst hc
  exact ⟨rfl, h1, h2⟩
theorem Sl.take_ {A : Option Addr} {n c : Nat} (h : Sl w ok (.slice A n c) xs) {k : Nat} (hk : k ≤ n) : Sl w ok (.slice A k c) (xs.take k) := by
  obtain ⟨h1, h2, h3⟩ := h.cap_le
  have hl : (xs.take k).length = k := by rw [List.length_take]; omega
  refine ⟨A, c, by rw [hl], by omega, h3, fun hn => ?_⟩
  obtain ⟨ad, hA, hb, hlt, hc⟩ := h.addr (by omega)
  refine ⟨ad, hA, hb, hlt, fun i u hu => hc i u ?_⟩
  have hi : i < k := by have := (List.getElem?_eq_some_iff.1 hu).1; omega
  rwa [List.getElem?_take_of_lt hi] at hu
theorem add_add_ (a : Addr) (i j : Nat) : (a.add i).add j = a.add (i + j) := by
  unfold Addr.add
  by_cases hi : i = 0 <;> by_cases hj : j = 0 <;> simp [hi, hj, Nat.add_assoc]
theorem Sl.drop_ {ad : Addr} {n c : Nat} (h : Sl w ok (.slice (some ad) n c) xs) {k : Nat} (hk : k ≤ n) : Sl w ok (.slice (some (ad.add k)) (n - k) (c - k)) (xs.drop k) := by
  obtain ⟨h1, h2, h3⟩ := h.cap_le
  have hl : (xs.drop k).length = n - k := by rw [List.length_drop]; omega
  refine ⟨_, c - k, by rw [hl], by omega, by omega, fun hn => ?_⟩
  obtain ⟨ad', hA, hb, hlt, hc⟩ := h.addr (by omega)
  injection hA with hA
  subst hA
  refine ⟨_, rfl, by rw [add_block]; exact hb, by rw [add_block]; exact hlt, fun i u hu => ?_⟩
  rw [add_add_]
  exact hc _ u (by rw [← hu, List.getElem?_drop])
theorem Sl.of_own {base : Nat} {e : TypeId} {n : Nat} (h : w.ownsRow base e 1 v n xs) : Sl w (fun b => some b = v.ownBlock ∧ base ≤ b) v xs := by
  obtain ⟨hl, h⟩ := h
  have hl : xs.length = n := by simpa using hl
  rcases h with ⟨rfl, rfl⟩ | ⟨g, cap, cur, rfl, hg, hh, hnc, hcm, hsz, hx⟩
  · obtain rfl : xs = [] := List.eq_nil_of_length_eq_zero hl
    exact Sl.nil _ _
  · refine ⟨_, cap, by rw [hl], by omega, hcm, fun hn => ⟨_, rfl, ⟨rfl, hg⟩, ?_, fun i u hu => ?_⟩⟩
    · rcases Nat.lt_or_ge g w.heap.size with hlt | hge
      · exact hlt
      · rw [Array.getElem?_eq_none hge] at hh; cases hh
    · rw [add_plain, Nat.zero_add, cell_of_row _ _ i _ _ _ hh]
      have hi : i < n := by rw [← hl]; exact (List.getElem?_eq_some_iff.1 hu).1
      rw [← hx, List.getElem?_take_of_lt (by omega)] at hu
      simpa using hu
end

theorem own_below {w w' : World} {base : Nat} {e : TypeId} {size : Nat} {v : Value} {n : Nat} {xs : List Value} (h : w.ownsRow base e size v n xs) (hb : Below w.heap.size w w') : w'.ownsRow base e size v n xs := by
  refine ⟨h.1, ?_⟩
  rcases h.2 with h0 | ⟨g, cap, cur, hv, hg, hh, r⟩
  · exact .inl h0
  · exact .inr ⟨g, cap, cur, hv, hg, by
      rw [hb.block g (by rcases Nat.lt_or_ge g w.heap.size with hl | hl; exact hl; rw [Array.getElem?_eq_none hl] at hh; cases hh)]; exact hh, r⟩
theorem own_one {w : World} {base : Nat} {e : TypeId} {size : Nat} {v : Value} {n : Nat} {xs : List Value} (h : w.ownsRow base e size v n xs) : v.oneCell' = true := by
  rcases h.2 with ⟨rfl, _⟩ | ⟨g, cap, cur, rfl, _⟩ <;> rfl
theorem own_form {w : World} {base : Nat} {e : TypeId} {size : Nat} {v : Value} {n : Nat} {xs : List Value} (h : w.ownsRow base e size v n xs) : ∃ A c, v = .slice A n c := by
  rcases h.2 with ⟨rfl, rfl⟩ | ⟨g, cap, cur, rfl, _⟩
  · exact ⟨_, _, rfl⟩
  · exact ⟨_, _, rfl⟩
theorem own_base {w : World} {base B : Nat} {e : TypeId} {size : Nat} {v : Value} {n : Nat} {xs : List Value} (h : w.ownsRow base e size v n xs) (hB : B ≤ base) : w.ownsRow B e size v n xs := by
  refine ⟨h.1, ?_⟩
  rcases h.2 with h0 | ⟨g, cap, cur, hv, hg, r⟩
  · exact .inl h0
  · exact .inr ⟨g, cap, cur, hv, by omega, r⟩
theorem own_setCell {w : World} {base : Nat} {e : TypeId} {size : Nat} {v : Value} {n : Nat} {xs : List Value} (h : w.ownsRow base e size v n xs) {p : Addr} (hp : p.block < base ∨ v.ownBlock ≠ some p.block) (u : Value) : (w.setCell p u).ownsRow base e size v n xs := by
  refine ⟨h.1, ?_⟩
  rcases h.2 with h0 | ⟨g, cap, cur, rfl, hg, hh, r⟩
  · exact .inl h0
  · refine .inr ⟨g, cap, cur, rfl, hg, ?_, r⟩
    rw [Below.heap_setCell _ _ _ _ (by
      rcases hp with hp | hp
      · omega
      · intro e; exact hp (by simp [Value.ownBlock, e]))]
    exact hh
theorem own_lt {w : World} {base : Nat} {e : TypeId} {size : Nat} {v : Value} {n : Nat} {xs : List Value} (h : w.ownsRow base e size v n xs) : ∀ k, v.ownBlock = some k → base ≤ k ∧ k < w.heap.size := by
  intro k hk
  rcases h.2 with ⟨rfl, _⟩ | ⟨g, cap, cur, rfl, hg, hh, _⟩
  · simp [Value.ownBlock] at hk
  · simp [Value.ownBlock] at hk
    subst hk
    refine ⟨hg, ?_⟩
    rcases Nat.lt_or_ge g w.heap.size with hl | hl
    · exact hl
    · rw [Array.getElem?_eq_none hl] at hh; cases hh
theorem own_old_or_new {w a : World} {v v' : Value} {o : Obj} (hs : w.heap.size ≤ a.heap.size) (hv : v'.ownBlock = v.ownBlock ∨ v'.ownBlock = some (a.alloc o).heap.size) :
    v'.ownBlock = v.ownBlock ∨ ∃ g, v'.ownBlock = some g ∧ w.heap.size ≤ g := by
  rcases hv with e | e
  · exact .inl e
  · exact .inr ⟨_, e, by simp; omega⟩
theorem grown_trans {w a b : World} {r r' : Option Nat} (h : w.grownBy a r) (k : a.grownBy b r') (hr : ∀ g, r' = some g → r = some g ∨ w.heap.size ≤ g) : w.grownBy b r :=
  ⟨k.os.trans h.os, k.tape.trans h.tape, k.output.trans h.output, Nat.le_trans h.size k.size, fun i hi hne => (k.block i (Nat.lt_of_lt_of_le hi h.size) (fun e => by
    rcases hr i e.symm with h1 | h1
    · exact hne h1.symm
    · omega)).trans (h.block i hi hne)⟩
theorem grown_alloc {w a : World} {r : Option Nat} (h : w.grownBy a r) (o : Obj) : w.grownBy (a.alloc o) r :=
  grown_trans h (World.grownBy_alloc a o none) (fun g hg => by cases hg)
theorem grown_drewN {w a : World} {r : Option Nat} (h : w.grownBy a r) (n : Nat) : w.grownBy (a.drewN n) r := ⟨h.os, h.tape, h.output, h.size, h.block⟩
theorem grown_cell {w a : World} {r : Option Nat} (h : w.grownBy a r) {p : Addr} (hp : p.block < w.heap.size) (hr : some p.block ≠ r) : a.cell? p = w.cell? p := World.cell?_of_block (h.block _ hp hr)
theorem grown_frozen {w a : World} {r : Option Nat} (h : w.grownBy a r) {p : Addr} (hp : p.block < w.heap.size) (hr : some p.block ≠ r) : a.frozen? p = w.frozen? p := World.frozen?_of_block (h.block _ hp hr)
/-- What an append leaves, told from the world before the element was laid. -/
theorem grown_push {w a b : World} {r r' : Option Nat} (h : w.grownBy a r) (o : Obj) (k : (a.alloc o).grownBy b r') (hr : r' = r ∨ ∃ g, r' = some g ∧ w.heap.size ≤ g) : w.grownBy b r :=
  grown_trans (grown_alloc h o) k (fun g hg => by
    rcases hr with e | ⟨g', e, hl⟩
    · exact .inl (by rw [← e]; exact hg)
    · rw [e] at hg; injection hg with hg; subst hg; exact .inr hl)
theorem new_one (w : World) (u : Value) (t : TypeId) : (w.alloc (.cells #[u] t)).cell? ⟨w.heap.size, 0, none⟩ = some u := by
  rw [cell_of_row _ _ 0 _ _ _ (heap_alloc_new w _)]; rfl
theorem le_alloc {B : Nat} {w : World} (h : B ≤ w.heap.size) (o : Obj) : B ≤ (w.alloc o).heap.size := by simp; omega

/-- The cells of a list of ints. -/
def ints (zs : List Int) : List Value := zs.map fun z => Value.int .i64 z
theorem ints_length (zs : List Int) : (ints zs).length = zs.length := by simp [ints]
theorem ints_get {zs : List Int} {i : Nat} (h : i < zs.length) : (ints zs)[i]? = some (.int .i64 (zs.getD i 0)) := by
  simp [ints, List.getD_eq_getElem?_getD, List.getElem?_eq_getElem h]

/-- A slice literal: a new block that holds its elements. -/
theorem new_sl (w : World) (t : TypeId) (xs : List Value) (h : xs.length ≤ maxLen) : Sl (w.alloc (.cells xs.toArray t)) (fun b => b = w.heap.size) (.slice (some ⟨w.heap.size, 0, none⟩) xs.length xs.length) xs := by
  refine ⟨_, _, rfl, Nat.le_refl _, h, fun _ => ⟨_, rfl, rfl, by simp, fun i u hu => ?_⟩⟩
  rw [add_plain, Nat.zero_add, cell_of_row _ _ i _ _ _ (heap_alloc_new w _)]
  simpa using hu

/-- What is known of a slice type's element type: one cell each. -/
structure ElemT (P : Program) (t e : TypeId) (z : Value) (bytes : Nat) : Prop where
  ht : P.underlying t = some (.slice e)
  hi : ∃ i, P.info? e = some i ∧ i.zero = some z ∧ i.size = 1 ∧ i.bytes = bytes
  hz : z.cells.size = 1

theorem ElemT.mk_ {P : Program} {t e : TypeId} {z : Value} {bytes : Nat} (ht : P.underlying t = some (.slice e)) (hi : (P.info? e).map (fun i => (i.zero, i.size, i.bytes)) = some (some z, 1, bytes)) (hz : z.cells.size = 1) : ElemT P t e z bytes := by
  obtain ⟨i, h1, h2, h3, h4⟩ := info_parts hi
  exact ⟨ht, ⟨i, h1, h2, h3, h4⟩, hz⟩

/-- make([]T, n): a new block of n zeros; an equation for the walk. -/
theorem run_mk {P : Program} {t e : TypeId} {z : Value} {bytes : Nat} (T : ElemT P t e z bytes) (hz : z.cells = #[z]) (n : Nat) (hb : bytes * n ≤ 281474976710656) (hm : n ≤ 9223372036854775807) (c : Int) (hc : c = (n : Int)) (w : World) :
    (Instr.makeSlice t (.int .i64 c) (.int .i64 c)).run P w = .ok (.slice (some ⟨w.heap.size, 0, none⟩) n n) (w.alloc (.cells (Array.replicate n z) e)) := by
  subst hc
  obtain ⟨i, h2, h3, h4, h5⟩ := T.hi
  have hb' : ((i.bytes : Nat) : Int) * ((n : Nat) : Int) ≤ 281474976710656 := by
    rw [h5]; exact Int.ofNat_le.2 hb
  rw [run_make w t e i z T.ht h2 h3 .i64 .i64 n n (by omega) (Int.le_refl _) hb' (by omega), hz, Int.toNat_natCast, h4, Nat.mul_one]
  congr 2
  have : madeCells #[z] n = Array.replicate n z := by
    apply Array.toList_inj.1
    rw [toList_madeCells_one]; simp
  rw [this]
/-- append of one element (behind buildSlice) onto a slice of the call's own. -/
theorem wpList_push {P : Program} {w : World} {ops : Array Oper} {rest : List Oper} {o : Oper} {a : Act} {Q : Exit → Act → World → Prop} {t e : TypeId} {z : Value} {bytes : Nat} (T : ElemT P t e z bytes) (hgd : o.guard = none) (s x : Operand)
    (ho : o.op = .call { callee := .builtin .append, args := #[s, x], argTypes := #[t, t] })
    (base : Nat) (v : Value) (n : Nat) (xs : List Value) (hs : a.eval s = v) (hown : w.ownsRow base e 1 v n xs)
    (ad : Addr) (c : Nat) (u : Value) (hx : a.eval x = .slice (some ad) 1 c) (hu : w.cell? ad = some u) (h1 : u.oneCell' = true) (hbytes : (n + 1) * bytes ≤ 140737488355328) (hpos : 0 < bytes) (hbase : base ≤ w.heap.size)
    (h : ∀ v' w', w'.ownsRow base e 1 v' (n + 1) (xs ++ [u]) → w.grownBy w' v.ownBlock → (v'.ownBlock = v.ownBlock ∨ v'.ownBlock = some w.heap.size) → wpList P ops Q rest (a.put o.dst v') w') :
    wpList P ops Q (o :: rest) a w := by
  obtain ⟨i, h2, h3, h4, h5⟩ := T.hi
  have hlen : n + 1 ≤ maxLen := by
    have := Nat.le_mul_of_pos_right (n + 1) hpos
    unfold maxLen; omega
  exact wpList_append_own_at w hgd s x t ho base e i z 1 bytes T.ht h2 h3 h4 h5 T.hz (by omega) v n xs hs hown ad 1 c [u] hx rfl
    (fun j y hy => by
      cases j with
      | zero => simp at hy; subst hy; rw [show ad.add 0 = ad from rfl]; exact hu
      | succ j => simp at hy)
    (by simpa using h1) hlen hbytes hbase (fun v' w' a1 a2 _ a4 => h v' w' a1 a2 a4)

theorem run_append_nil_src {P : Program} (w : World) (base t ty e : Nat) (i : TypeInfo) (size : Nat) (ht : P.underlying t = some (.slice e)) (hi : P.info? e = some i) (v : Value) (n : Nat) (xs : List Value) (hown : w.ownsRow base e size v n xs) (c : Nat) :
    (Builtin.append_ #[t, t] ty #[v, .slice none 0 c]).run P w = .ok v w := by
  rcases hown.2 with ⟨rfl, rfl⟩ | ⟨g, cap, cur, rfl, _, _, hnc, _⟩
  · simp [Builtin.append_, run_underlying ht, sizeOf, typeInfo, hi, Builtin.lenOf, Builtin.firstCells]
  · simp [Builtin.append_, run_underlying ht, sizeOf, typeInfo, hi, Builtin.lenOf, Builtin.firstCells, hnc, storeCells]

/-- append of a whole slice, nil or not, onto a slice of the call's own. -/
theorem wpList_append_sl {P : Program} {w : World} {ops : Array Oper} {rest : List Oper} {o : Oper} {a : Act} {Q : Exit → Act → World → Prop} {t e : TypeId} {z : Value} {bytes : Nat} (T : ElemT P t e z bytes) (hgd : o.guard = none) (s x : Operand)
    (ho : o.op = .call { callee := .builtin .append, args := #[s, x], argTypes := #[t, t] })
    (base : Nat) (v : Value) (n : Nat) (xs : List Value) (hs : a.eval s = v) (hown : w.ownsRow base e 1 v n xs)
    (A : Option Addr) (m c : Nat) (news : List Value) (ok : Nat → Prop) (hx : a.eval x = .slice A m c) (hr : Sl w ok (.slice A m c) news) (h1 : ∀ u ∈ news, u.oneCell' = true) (hbytes : (n + m) * bytes ≤ 140737488355328) (hpos : 0 < bytes) (hbase : base ≤ w.heap.size)
    (h : ∀ v' w', w'.ownsRow base e 1 v' (n + m) (xs ++ news) → w.grownBy w' v.ownBlock → (v'.ownBlock = v.ownBlock ∨ v'.ownBlock = some w.heap.size) → wpList P ops Q rest (a.put o.dst v') w') :
    wpList P ops Q (o :: rest) a w := by
  obtain ⟨i, h2, h3, h4, h5⟩ := T.hi
  have hlen : n + m ≤ maxLen := by
    have := Nat.le_mul_of_pos_right (n + m) hpos
    unfold maxLen; omega
  obtain ⟨A', cap', hv, hl1, hl2, hcell⟩ := hr
  injection hv with hA hm hc
  subst hA; subst hm; subst hc
  cases A with
  | none =>
    have h0 : news.length = 0 := by
      rcases Nat.eq_zero_or_pos news.length with h0 | h0
      · exact h0
      · obtain ⟨ad, h, _⟩ := hcell h0; cases h
    have hn : news = [] := List.eq_nil_of_length_eq_zero h0
    subst hn
    refine wpList_plain hgd fun K hK => ?_
    have hr := run_append_nil_src (P := P) w base t o.type e i 1 T.ht h2 v n xs hown c
    unfold Oper.wp execOp
    simp only [ho, resolve, invoke, builtin, Sem.run_bind, Sem.run_pure, Result.andThen_ok, List.map_toArray, List.map_cons, List.map_nil, hs, hx, List.length_nil, hr]
    exact hK _ _ (h v w (by simpa using hown) (World.grownBy.refl w _) (.inl rfl))
  | some ad =>
    exact wpList_append_own_at w hgd s x t ho base e i z 1 bytes T.ht h2 h3 h4 h5 T.hz (by omega) v n xs hs hown ad news.length c news hx (by simp)
      (fun j y hy => by
        have hj : 0 < news.length := by have := (List.getElem?_eq_some_iff.1 hy).1; omega
        obtain ⟨ad', h, _, _, hcc⟩ := hcell hj
        injection h with h
        subst h
        exact hcc j y hy)
      h1 hlen hbytes hbase (fun v' w' a1 a2 _ a4 => h v' w' a1 a2 a4)
theorem ints_one (zs : List Int) : ∀ u ∈ ints zs, u.oneCell' = true := by
  intro u hu; simp only [ints, List.mem_map] at hu; obtain ⟨z, _, rfl⟩ := hu; rfl
theorem ints_append (xs ys : List Int) : ints (xs ++ ys) = ints xs ++ ints ys := by simp [ints]

/-- A slice of slices, one more appended: each of them reads as before; none lies in the outer row's block. -/
theorem rows_push {wo wr w1 : World} {B : Nat} {e : TypeId} {vo u v' : Value} {s : Nat} {vals : List Value} {ob : Obj} {L : Nat → List Value} {P : Nat → Prop} (ho : wo.ownsRow B e 1 vo s vals)
    (hall : ∀ i u, vals[i]? = some u → Sl wo (fun b => some b ≠ vo.ownBlock ∧ P b) u (L i)) (hb2 : Below wo.heap.size wo wr) (hin : Sl wr (fun b => wo.heap.size ≤ b) u (L s)) (hP : ∀ b, wo.heap.size ≤ b → P b)
    (hg1 : (wr.alloc ob).grownBy w1 vo.ownBlock) (hk1 : v'.ownBlock = vo.ownBlock ∨ v'.ownBlock = some (wr.alloc ob).heap.size) :
    ∀ i x, (vals ++ [u])[i]? = some x → Sl w1 (fun b => some b ≠ v'.ownBlock ∧ P b) x (L i) := by
  intro i x hx
  have hl : vals.length = s := by have := ho.1; simpa using this
  have key : Sl (wr.alloc ob) (fun b => some b ≠ vo.ownBlock ∧ some b ≠ v'.ownBlock ∧ P b) x (L i) := by
    rcases Nat.lt_or_ge i vals.length with hi | hi
    · rw [List.getElem?_append_left hi] at hx
      have h1 := (hall i x hx).later hb2
      have h2 := (h1.mono (ok' := fun b => (some b ≠ vo.ownBlock ∧ P b) ∧ b < wr.heap.size) fun b hb' h => ⟨h, hb'⟩).alloc ob
      refine h2.mono fun b _ ⟨h, hlt⟩ => ⟨h.1, ?_, h.2⟩
      rcases hk1 with e | e
      · rw [e]; exact h.1
      · rw [e]; simp; omega
    · rw [List.getElem?_append_right hi] at hx
      have hi' : i = s := by
        have := (List.getElem?_eq_some_iff.1 hx).1
        simp at this; omega
      subst hi'
      rw [show i - vals.length = 0 by omega] at hx
      simp at hx
      subst hx
      have h2 := (hin.mono (ok' := fun b => wo.heap.size ≤ b ∧ b < wr.heap.size) fun b hb' h => ⟨h, hb'⟩).alloc ob
      have hne : ∀ b, wo.heap.size ≤ b → some b ≠ vo.ownBlock := fun b hb' e => by have := own_lt ho b e.symm; omega
      refine h2.mono fun b _ ⟨h, hlt⟩ => ⟨hne b h, ?_, hP b h⟩
      rcases hk1 with e | e
      · rw [e]; exact hne b h
      · rw [e]; simp; omega
  exact (key.grown hg1 fun b h => h.1).mono fun b _ h => h.2
/-- A call that grows nothing old. -/
theorem below_of_grown {w a : World} (h : w.grownBy a none) : Below w.heap.size w a := ⟨h.os, h.tape, h.output, h.size, fun k hk => h.block k hk (by simp)⟩

/-- append of one element as a step of a region that draws its order. -/
theorem step_push {P : Program} {w : World} {ops : Array Oper} {o : Oper} {a : Act} {K : Act → World → Prop} {Q : Exit → Act → World → Prop} {E : Prop} {t e : TypeId} {z : Value} {bytes : Nat} (T : ElemT P t e z bytes) (hgd : o.guard = none) (s x : Operand)
    (ho : o.op = .call { callee := .builtin .append, args := #[s, x], argTypes := #[t, t] })
    (base : Nat) (v : Value) (n : Nat) (xs : List Value) (hs : a.eval s = v) (hown : w.ownsRow base e 1 v n xs)
    (ad : Addr) (c : Nat) (u : Value) (hx : a.eval x = .slice (some ad) 1 c) (hu : w.cell? ad = some u) (h1 : u.oneCell' = true) (hbytes : (n + 1) * bytes ≤ 140737488355328) (hpos : 0 < bytes) (hbase : base ≤ w.heap.size)
    (h : ∀ v' w', w'.ownsRow base e 1 v' (n + 1) (xs ++ [u]) → w.grownBy w' v.ownBlock → (v'.ownBlock = v.ownBlock ∨ v'.ownBlock = some w.heap.size) → K (a.put o.dst v') w') :
    if Region.wanted o (yielded ops a.tmps) = true then Oper.wp P o a w K Q else E := by
  have hw : Region.wanted o (yielded ops a.tmps) = true := by simp [Region.wanted, hgd]
  rw [if_pos hw]
  obtain ⟨i, h2, h3, h4, h5⟩ := T.hi
  have hlen : n + 1 ≤ maxLen := by
    have := Nat.le_mul_of_pos_right (n + 1) hpos
    unfold maxLen; omega
  obtain ⟨v', w', hrun, a1, a2, _, a4⟩ := run_append_own_at (P := P) w base t o.type e i z 1 bytes T.ht h2 h3 h4 h5 T.hz (by omega) v n xs hown ad 1 c [u] rfl
    (fun j y hy => by
      cases j with
      | zero => simp at hy; subst hy; rw [show ad.add 0 = ad from rfl]; exact hu
      | succ j => simp at hy)
    (by simpa using h1) hlen hbytes hbase
  unfold Oper.wp execOp
  simp only [ho, resolve, invoke, builtin, Sem.run_bind, Sem.run_pure, Result.andThen_ok, List.map_toArray, List.map_cons, List.map_nil, hs, hx, hrun]
  exact h v' w' a1 a2 a4
/-- The same, the new value written out. -/
theorem step_push_form {P : Program} {w : World} {ops : Array Oper} {o : Oper} {a : Act} {K : Act → World → Prop} {Q : Exit → Act → World → Prop} {E : Prop} {t e : TypeId} {z : Value} {bytes : Nat} (T : ElemT P t e z bytes) (hgd : o.guard = none) (s x : Operand)
    (ho : o.op = .call { callee := .builtin .append, args := #[s, x], argTypes := #[t, t] })
    (base : Nat) (v : Value) (n : Nat) (xs : List Value) (hs : a.eval s = v) (hown : w.ownsRow base e 1 v n xs)
    (ad : Addr) (c : Nat) (u : Value) (hx : a.eval x = .slice (some ad) 1 c) (hu : w.cell? ad = some u) (h1 : u.oneCell' = true) (hbytes : (n + 1) * bytes ≤ 140737488355328) (hpos : 0 < bytes) (hbase : base ≤ w.heap.size)
    (h : ∀ g cap w', w'.ownsRow base e 1 (.slice (some ⟨g, 0, none⟩) (n + 1) cap) (n + 1) (xs ++ [u]) → w.grownBy w' v.ownBlock → (some g = v.ownBlock ∨ g = w.heap.size) → K (a.put o.dst (.slice (some ⟨g, 0, none⟩) (n + 1) cap)) w') :
    if Region.wanted o (yielded ops a.tmps) = true then Oper.wp P o a w K Q else E :=
  step_push T hgd s x ho base v n xs hs hown ad c u hx hu h1 hbytes hpos hbase fun v' w' a1 a2 a3 => by
    obtain ⟨g, cap, rfl, _, _⟩ := a1.form (by omega)
    exact h g cap w' a1 a2 (by simpa [Value.ownBlock] using a3)

/-- The same words for an element type of several cells. -/
structure ElemK (P : Program) (t e : TypeId) (z : Value) (size bytes : Nat) : Prop where
  ht : P.underlying t = some (.slice e)
  hi : ∃ i, P.info? e = some i ∧ i.zero = some z ∧ i.size = size ∧ i.bytes = bytes
  hz : z.cells.size = size
theorem ElemK.mk_ {P : Program} {t e : TypeId} {z : Value} {size bytes : Nat} (ht : P.underlying t = some (.slice e)) (hi : (P.info? e).map (fun i => (i.zero, i.size, i.bytes)) = some (some z, size, bytes)) (hz : z.cells.size = size) : ElemK P t e z size bytes := by
  obtain ⟨i, h1, h2, h3, h4⟩ := info_parts hi
  exact ⟨ht, ⟨i, h1, h2, h3, h4⟩, hz⟩
/-- append of one element of several cells (behind buildSlice) onto a slice of the call's own. -/
theorem wpList_pushk {P : Program} {w : World} {ops : Array Oper} {rest : List Oper} {o : Oper} {a : Act} {Q : Exit → Act → World → Prop} {t e : TypeId} {z : Value} {size bytes : Nat} (T : ElemK P t e z size bytes) (hgd : o.guard = none) (s x : Operand)
    (ho : o.op = .call { callee := .builtin .append, args := #[s, x], argTypes := #[t, t] })
    (base : Nat) (v : Value) (n : Nat) (xs : List Value) (hs : a.eval s = v) (hown : w.ownsRow base e size v n xs)
    (ad : Addr) (c : Nat) (news : List Value) (hx : a.eval x = .slice (some ad) 1 c) (hl : news.length = 1 * size) (hu : ∀ j u, news[j]? = some u → w.cell? (ad.add j) = some u) (h1 : ∀ u ∈ news, u.oneCell' = true) (hbytes : (n + 1) * bytes ≤ 140737488355328) (hpos : 0 < bytes) (hsz : 0 < size) (hbase : base ≤ w.heap.size)
    (h : ∀ v' w', w'.ownsRow base e size v' (n + 1) (xs ++ news) → w.grownBy w' v.ownBlock → (v'.ownBlock = v.ownBlock ∨ v'.ownBlock = some w.heap.size) → wpList P ops Q rest (a.put o.dst v') w') :
    wpList P ops Q (o :: rest) a w := by
  obtain ⟨i, h2, h3, h4, h5⟩ := T.hi
  have hlen : n + 1 ≤ maxLen := by
    have := Nat.le_mul_of_pos_right (n + 1) hpos
    unfold maxLen; omega
  exact wpList_append_own_at w hgd s x t ho base e i z size bytes T.ht h2 h3 h4 h5 T.hz hsz v n xs hs hown ad 1 c news hx hl hu h1 hlen hbytes hbase (fun v' w' a1 a2 _ a4 => h v' w' a1 a2 a4)
theorem news_new (X : World) (t : TypeId) (cs : List Value) (n : Nat) (hn : n = X.heap.size) : ∀ j u, cs[j]? = some u → (X.alloc (.cells cs.toArray t)).cell? ((⟨n, 0, none⟩ : Addr).add j) = some u := by
  intro j u hu
  subst hn
  rw [add_plain, Nat.zero_add, cell_of_row _ _ j _ _ _ (heap_alloc_new X _)]
  simpa using hu
/-- A slice that holds an element lies at a plain address. -/
theorem Sl.plain {w : World} {ok : Nat → Prop} {v : Value} {xs : List Value} (h : Sl w ok v xs) (hn : 0 < xs.length) : ∃ b off cap, v = .slice (some ⟨b, off, none⟩) xs.length cap ∧ ok b ∧ b < w.heap.size ∧ ∀ i u, xs[i]? = some u → w.cell? ⟨b, off + i, none⟩ = some u := by
  obtain ⟨⟨b, off, spot⟩, cap, hv, h1, h2, h3⟩ := h.open_ hn
  have hs : spot = none := by simpa [Addr.add] using World.cell?_spot (h3 0 _ (List.getElem?_eq_getElem hn))
  subst hs
  exact ⟨b, off, cap, hv, h1, h2, fun i u hu => by rw [← add_plain]; exact h3 i u hu⟩
theorem Sl.plainA {w : World} {ok : Nat → Prop} {A : Option Addr} {n c : Nat} {xs : List Value} (h : Sl w ok (.slice A n c) xs) (hn : 0 < xs.length) : ∃ b off, A = some ⟨b, off, none⟩ ∧ b < w.heap.size ∧ ∀ i u, xs[i]? = some u → w.cell? ⟨b, off + i, none⟩ = some u := by
  obtain ⟨b, off, cap, hv, _, h2, h3⟩ := h.plain hn
  injection hv with hA
  exact ⟨b, off, hA, h2, h3⟩

/-- make of n elements of one cell each, in every world. -/
theorem run_make1 {P : Program} {t e : TypeId} {z : Value} {bytes : Nat} (T : ElemT P t e z bytes) (hz : z.cells = #[z]) (n : Nat) (m : Int) (hm : m = (n : Int)) (hb : bytes * n ≤ 140737488355328) (h63 : n ≤ 9223372036854775807) :
    ∀ W : World, (Instr.makeSlice t (.int .i64 m) (.int .i64 m)).run P W = .ok (.slice (some ⟨W.heap.size, 0, none⟩) n n) (W.alloc (.cells (List.replicate n z).toArray e)) := by
  intro W
  subst hm
  obtain ⟨i, h2, h3, h4, h5⟩ := T.hi
  have hb2 : (i.bytes : Int) * (n : Int) ≤ 281474976710656 := by
    rw [h5]; have : ((bytes * n : Nat) : Int) ≤ 140737488355328 := by omega
    rw [Int.natCast_mul] at this; omega
  have hr := run_make (P := P) W t e i z T.ht h2 h3 .i64 .i64 n n (by omega) (Int.le_refl _) hb2 (by omega)
  simp only [Int.toNat_natCast, h4, Nat.mul_one] at hr
  rw [hr, hz]
  congr 3
  apply Array.ext'
  rw [toList_madeCells_one]
theorem IRow.zeros (w : World) (t : TypeId) (n : Nat) : IRow (w.alloc (.cells (List.replicate n (Value.int .i64 0)).toArray t)) w.heap.size (List.replicate n 0) := by
  have := (Blk.new w t (List.replicate n (Value.int .i64 0)).toArray).row
  unfold IRow; rw [List.map_replicate]; simpa using this
theorem IRow.below {w w' : World} {g B : Nat} {l : List Int} (h : IRow w g l) (hb : Below B w w') (hg : g < B) : IRow w' g l := Row.below h hb hg
theorem IRow.alloc {w : World} {g : Nat} {l : List Int} (h : IRow w g l) (o : Obj) : IRow (w.alloc o) g l := Row.alloc h o
theorem IRow.drew {w : World} {g : Nat} {l : List Int} (h : IRow w g l) : IRow w.drew g l := Row.drew h
theorem IRow.far {w : World} {g : Nat} {l : List Int} (h : IRow w g l) {p : Addr} (hp : g ≠ p.block) (u : Value) : IRow (w.setCell p u) g l := Row.far h hp u
end Go.Proofs.YtcbnelklilamgaaDoor
