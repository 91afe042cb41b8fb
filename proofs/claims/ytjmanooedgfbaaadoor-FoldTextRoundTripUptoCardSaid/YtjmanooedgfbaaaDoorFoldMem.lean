/- Leaves and piles as they lie in memory. -/
import Derived.Test.YtjmanooedgfbaaaDoorProg
import Derived.Test.YtjmanooedgfbaaaDoorKit
import Derived.Test.YtjmanooedgfbaaaDoorFoldPlain
namespace Go.Proofs.YtjmanooedgfbaaaDoor
open Go.RowKit
/-- A slice value whose n elements lie as the cells xs, in a block of which ok is known. -/
def SlM (w : World) (ok : Nat → Prop) (v : Value) (n : Nat) (xs : List Value) : Prop :=
  ∃ A cap, v = .slice A n cap ∧ n ≤ cap ∧ cap ≤ maxLen ∧
    (0 < n → ∃ b off, A = some ⟨b, off, none⟩ ∧ ok b ∧ b < w.heap.size ∧ ∀ k u, xs[k]? = some u → w.cell? ⟨b, off + k, none⟩ = some u)
section
variable {w w' : World} {ok ok' : Nat → Prop} {v : Value} {n : Nat} {xs : List Value}
theorem SlM.nil (w : World) (ok : Nat → Prop) : SlM w ok (.slice none 0 0) 0 xs := ⟨none, 0, rfl, Nat.le_refl _, by simp, fun h => absurd h (by simp)⟩
theorem SlM.mono (h : SlM w ok v n xs) (hk : ∀ b, b < w.heap.size → ok b → ok' b) : SlM w ok' v n xs := by
  obtain ⟨A, cap, hv, h1, h2, h3⟩ := h
  exact ⟨A, cap, hv, h1, h2, fun hn => by obtain ⟨b, off, ha, hb, hl, hc⟩ := h3 hn; exact ⟨b, off, ha, hk _ hl hb, hl, hc⟩⟩
theorem SlM.keep (h : SlM w ok v n xs) (hs : w.heap.size ≤ w'.heap.size) (hk : ∀ b, ok b → b < w.heap.size → w'.heap[b]? = w.heap[b]?) : SlM w' ok v n xs := by
  obtain ⟨A, cap, hv, h1, h2, h3⟩ := h
  refine ⟨A, cap, hv, h1, h2, fun hn => ?_⟩
  obtain ⟨b, off, ha, hb, hl, hc⟩ := h3 hn
  refine ⟨b, off, ha, hb, Nat.lt_of_lt_of_le hl hs, fun i u hu => ?_⟩
  rw [World.cell?_of_block (w := w) (a := ⟨b, off + i, none⟩) (hk _ hb hl)]
  exact hc i u hu
theorem SlM.drewN (h : SlM w ok v n xs) (k : Nat) : SlM (w.drewN k) ok v n xs := h
theorem SlM.drew (h : SlM w ok v n xs) : SlM w.drew ok v n xs := h
theorem SlM.alloc (h : SlM w ok v n xs) (o : Obj) : SlM (w.alloc o) ok v n xs := h.keep (by simp) fun b _ hl => Below.heap_alloc w o b hl
theorem SlM.later (h : SlM w ok v n xs) (hb : Below w.heap.size w w') : SlM w' ok v n xs := h.keep hb.size fun b _ hl => hb.block b hl
theorem SlM.below {B : Nat} (h : SlM w ok v n xs) (hb : Below B w w') (hB : ∀ b, ok b → b < w.heap.size → b < B) : SlM w' ok v n xs := h.keep hb.size fun b ho hl => hb.block b (hB b ho hl)
theorem SlM.grown {row : Option Nat} (h : SlM w ok v n xs) (hb : w.grownBy w' row) (hr : ∀ b, ok b → some b ≠ row) : SlM w' ok v n xs := h.keep hb.size fun b ho hl => hb.block b hl (hr b ho)
theorem SlM.far (h : SlM w ok v n xs) {p : Addr} (hp : ¬ ok p.block) (u : Value) : SlM (w.setCell p u) ok v n xs :=
  h.keep (by simp [World.setCell]) fun b ho _ => Below.heap_setCell w p u b (fun e => hp (e ▸ ho))
theorem SlM.form (h : SlM w ok v n xs) : ∃ A cap, v = .slice A n cap := by obtain ⟨A, cap, hv, _⟩ := h; exact ⟨A, cap, hv⟩
theorem SlM.caps {A : Option Addr} {m c : Nat} (h : SlM w ok (.slice A m c) n xs) : m = n ∧ n ≤ c ∧ c ≤ maxLen := by
  obtain ⟨A', cap, hv, h1, h2, _⟩ := h
  injection hv with _ hn hc
  subst hn; subst hc
  exact ⟨rfl, h1, h2⟩
theorem SlM.open_ (h : SlM w ok v n xs) (hn : 0 < n) : ∃ b off cap, v = .slice (some ⟨b, off, none⟩) n cap ∧ ok b ∧ b < w.heap.size ∧ n ≤ cap ∧ cap ≤ maxLen ∧ ∀ k u, xs[k]? = some u → w.cell? ⟨b, off + k, none⟩ = some u := by
  obtain ⟨A, cap, hv, h1, h2, h3⟩ := h
  obtain ⟨b, off, rfl, hb, hl, hc⟩ := h3 hn
  exact ⟨b, off, cap, hv, hb, hl, h1, h2, hc⟩
theorem SlM.addr {A : Option Addr} {m c : Nat} (h : SlM w ok (.slice A m c) n xs) (hn : 0 < n) : ∃ b off, A = some ⟨b, off, none⟩ ∧ ok b ∧ b < w.heap.size ∧ ∀ k u, xs[k]? = some u → w.cell? ⟨b, off + k, none⟩ = some u := by
  obtain ⟨b, off, cap, hv, hb, hl, _, _, hc⟩ := h.open_ hn
  injection hv with hA
  exact ⟨b, off, hA, hb, hl, hc⟩
theorem SlM.of_own {base : Nat} {e : TypeId} {size : Nat} (h : w.ownsRow base e size v n xs) : SlM w (fun b => some b = v.ownBlock ∧ base ≤ b) v n xs := by
  obtain ⟨hl, h⟩ := h
  rcases h with ⟨rfl, rfl⟩ | ⟨g, cap, cur, rfl, hg, hh, hnc, hcm, hsz', hx⟩
  · exact SlM.nil _ _
  · refine ⟨_, cap, rfl, by omega, hcm, fun hn => ⟨g, 0, rfl, ⟨rfl, hg⟩, ?_, fun i u hu => ?_⟩⟩
    · rcases Nat.lt_or_ge g w.heap.size with hlt | hge
      · exact hlt
      · rw [Array.getElem?_eq_none hge] at hh; cases hh
    · rw [Nat.zero_add, cell_of_row _ _ i _ _ _ hh]
      have hi : i < n * size := by rw [← hl]; exact (List.getElem?_eq_some_iff.1 hu).1
      rw [← hx, List.getElem?_take_of_lt (by omega)] at hu
      simpa using hu
theorem Sl.of_m (h : SlM w ok v n xs) (hx : xs.length = n) : Sl w ok v xs := by
  obtain ⟨A, cap, hv, h1, h2, h3⟩ := h
  refine ⟨A, cap, by rw [hx]; exact hv, by omega, h2, fun hn => ?_⟩
  obtain ⟨b, off, rfl, hb, hl, hc⟩ := h3 (by omega)
  exact ⟨_, rfl, hb, hl, fun i u hu => by rw [add_plain]; exact hc i u hu⟩
end
/-! Leaves. -/
def lcell (x : Leaf) : List Value := [.int .i64 (x.c : Int), .int .i64 (x.r : Int), .bool x.fx, .bool x.fy]
def lcells (l : List Leaf) : List Value := l.flatMap lcell
def leaf0 : Leaf := ⟨0, 0, false, false⟩
/-- The i-th leaf. -/
def lf (l : List Leaf) (i : Nat) : Leaf := l.getD i leaf0
theorem lf_eq (l : List Leaf) {i : Nat} (h : i < l.length) : lf l i = l[i] := by simp [lf, List.getD_eq_getElem?_getD, h]
theorem lcells_length (l : List Leaf) : (lcells l).length = l.length * 4 := by
  induction l with
  | nil => rfl
  | cons x l ih => simp only [lcells, List.flatMap_cons, List.length_append, List.length_cons] at ih ⊢; rw [ih]; simp [lcell]; omega
theorem lcells_append (a b : List Leaf) : lcells (a ++ b) = lcells a ++ lcells b := by simp [lcells]
theorem lcells_one (x : Leaf) : lcells [x] = lcell x := by simp [lcells]
theorem lcells_ones (l : List Leaf) : ∀ u ∈ lcells l, u.oneCell' = true := by
  intro u hu
  obtain ⟨x, _, hx⟩ := List.mem_flatMap.1 hu
  simp only [lcell, List.mem_cons, List.not_mem_nil, or_false] at hx
  rcases hx with rfl | rfl | rfl | rfl <;> rfl
theorem lcells_at (l : List Leaf) (i j : Nat) (hi : i < l.length) (hj : j < 4) : (lcells l)[i * 4 + j]? = (lcell (lf l i))[j]? := by
  induction l generalizing i with
  | nil => simp at hi
  | cons p l ih =>
    cases i with
    | zero =>
      have : lf (p :: l) 0 = p := rfl
      rw [this]
      simp only [lcells, List.flatMap_cons]
      rw [List.getElem?_append_left (by simp [lcell]; omega)]; simp
    | succ i =>
      have e : lf (p :: l) (i + 1) = lf l i := rfl
      rw [e, ← ih i (by simpa using hi)]
      simp only [lcells, List.flatMap_cons]
      rw [List.getElem?_append_right (by simp [lcell]; omega)]
      congr 1; simp [lcell]; omega
/-- A slice value reads as these leaves. -/
def Lv (w : World) (ok : Nat → Prop) (v : Value) (l : List Leaf) : Prop := SlM w ok v l.length (lcells l)
theorem Lv.cells4 {w : World} {ok : Nat → Prop} {v : Value} {l : List Leaf} (h : Lv w ok v l) (hn : 0 < l.length) : ∃ b off cap, v = .slice (some ⟨b, off, none⟩) l.length cap ∧ ok b ∧ b < w.heap.size ∧ l.length ≤ cap ∧ cap ≤ maxLen ∧
    ∀ i, i < l.length → w.cell? ⟨b, off + i * 4, none⟩ = some (.int .i64 ((lf l i).c : Int)) ∧ w.cell? ⟨b, off + i * 4 + 1, none⟩ = some (.int .i64 ((lf l i).r : Int)) ∧ w.cell? ⟨b, off + i * 4 + 2, none⟩ = some (.bool (lf l i).fx) ∧ w.cell? ⟨b, off + i * 4 + 3, none⟩ = some (.bool (lf l i).fy) := by
  obtain ⟨b, off, cap, hv, hb, hl, h1, h2, hc⟩ := SlM.open_ h hn
  refine ⟨b, off, cap, hv, hb, hl, h1, h2, fun i hi => ?_⟩
  have key : ∀ j u, j < 4 → (lcell (lf l i))[j]? = some u → w.cell? ⟨b, off + i * 4 + j, none⟩ = some u := fun j u hj hu => by
    rw [Nat.add_assoc]; exact hc _ u ((lcells_at l i j hi hj).trans hu)
  exact ⟨key 0 _ (by omega) rfl, key 1 _ (by omega) rfl, key 2 _ (by omega) rfl, key 3 _ (by omega) rfl⟩
theorem eLeaf : ElemK Tryd.prog 58 63 (.agg #[.int .i64 0, .int .i64 0, .bool false, .bool false]) 4 24 := ElemK.mk_ Tryd.underlying58 (by kernel_rfl) rfl
/-- The value of a leaf. -/
def lval (x : Leaf) : Value := .agg #[.int .i64 (x.c : Int), .int .i64 (x.r : Int), .bool x.fx, .bool x.fy]
end Go.Proofs.YtjmanooedgfbaaaDoor
