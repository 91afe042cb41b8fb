/- Tables as they lie in memory. -/
import Derived.Test.YtcbnelklilamgaaDoorVryPlain
import Derived.Test.YtcbnelklilamgaaDoorKit
namespace Go.Proofs.YtcbnelklilamgaaDoor
open Go.RowKit Vr
/-- A string of the program's. -/
abbrev Bs (s : Src) : ByteArray := ⟨s.toArray⟩
theorem bs_size (s : Src) : (Bs s).size = s.length := by simp [ByteArray.size]
theorem bs_list (s : Src) : (Bs s).data.toList = s := by simp
/-- A slice value whose n elements lie as the cells xs, in a block of which ok is known. -/
def SlM (w : World) (ok : Nat → Prop) (v : Value) (n : Nat) (xs : List Value) : Prop :=
  ∃ A cap, v = .slice A n cap ∧ n ≤ cap ∧ cap ≤ maxLen ∧
    (0 < n → ∃ b off, A = some ⟨b, off, none⟩ ∧ ok b ∧ b < w.heap.size ∧ ∀ k u, xs[k]? = some u → w.cell? ⟨b, off + k, none⟩ = some u)
section
variable {w w' : World} {ok ok' : Nat → Prop} {v : Value} {n : Nat} {xs : List Value}
theorem SlM.nil (w : World) (ok : Nat → Prop) : SlM w ok (.slice none 0 0) 0 xs := ⟨none, 0, rfl, Nat.le_refl _, by simp, fun h => absurd h (by simp)⟩
theorem SlM.mono (h : SlM w ok v n xs) (hk : ∀ b, b < w.heap.size → ok b → ok' b) : SlM w ok' v n xs := by
  obtain ⟨A, cap, hv, h1, h2, h3⟩ := h
  exact ⟨A, cap, hv, h1, h2, fun hn => by obtain ⟨b, off, ha, hb, hl, hc⟩ := h3 hn; exact ⟨b, off, ha, hk _ hl hb, hl, hc⟩⟩
theorem SlM.keep (h : SlM w ok v n xs) (hs : w.heap.size ≤ w'.heap.size) (hk : ∀ b, ok b → b < w.heap.size → w'.heap[b]? = w.heap[b]?) : SlM w' ok v n xs := by
  obtain ⟨A, cap, hv, h1, h2, h3⟩ := h
  refine ⟨A, cap, hv, h1, h2, fun hn => ?_⟩
  obtain ⟨b, off, ha, hb, hl, hc⟩ := h3 hn
  refine ⟨b, off, ha, hb, Nat.lt_of_lt_of_le hl hs, fun i u hu => ?_⟩
  rw [World.cell?_of_block (w := w) (a := ⟨b, off + i, none⟩) (hk _ hb hl)]
  exact hc i u hu
theorem SlM.drewN (h : SlM w ok v n xs) (k : Nat) : SlM (w.drewN k) ok v n xs := h
theorem SlM.drew (h : SlM w ok v n xs) : SlM w.drew ok v n xs := h
theorem SlM.alloc (h : SlM w ok v n xs) (o : Obj) : SlM (w.alloc o) ok v n xs := h.keep (by simp) fun b _ hl => Below.heap_alloc w o b hl
theorem SlM.later (h : SlM w ok v n xs) (hb : Below w.heap.size w w') : SlM w' ok v n xs := h.keep hb.size fun b _ hl => hb.block b hl
theorem SlM.below {B : Nat} (h : SlM w ok v n xs) (hb : Below B w w') (hB : ∀ b, ok b → b < w.heap.size → b < B) : SlM w' ok v n xs := h.keep hb.size fun b ho hl => hb.block b (hB b ho hl)
theorem SlM.grown {row : Option Nat} (h : SlM w ok v n xs) (hb : w.grownBy w' row) (hr : ∀ b, ok b → some b ≠ row) : SlM w' ok v n xs := h.keep hb.size fun b ho hl => hb.block b hl (hr b ho)
theorem SlM.far (h : SlM w ok v n xs) {p : Addr} (hp : ¬ ok p.block) (u : Value) : SlM (w.setCell p u) ok v n xs :=
  h.keep (by simp [World.setCell]) fun b ho _ => Below.heap_setCell w p u b (fun e => hp (e ▸ ho))
theorem SlM.form (h : SlM w ok v n xs) : ∃ A cap, v = .slice A n cap := by obtain ⟨A, cap, hv, _⟩ := h; exact ⟨A, cap, hv⟩
theorem SlM.caps {A : Option Addr} {m c : Nat} (h : SlM w ok (.slice A m c) n xs) : m = n ∧ n ≤ c ∧ c ≤ maxLen := by
  obtain ⟨A', cap, hv, h1, h2, _⟩ := h
  injection hv with _ hn hc
  subst hn; subst hc
  exact ⟨rfl, h1, h2⟩
theorem SlM.open_ (h : SlM w ok v n xs) (hn : 0 < n) : ∃ b off cap, v = .slice (some ⟨b, off, none⟩) n cap ∧ ok b ∧ b < w.heap.size ∧ n ≤ cap ∧ cap ≤ maxLen ∧ ∀ k u, xs[k]? = some u → w.cell? ⟨b, off + k, none⟩ = some u := by
  obtain ⟨A, cap, hv, h1, h2, h3⟩ := h
  obtain ⟨b, off, rfl, hb, hl, hc⟩ := h3 hn
  exact ⟨b, off, cap, hv, hb, hl, h1, h2, hc⟩
theorem SlM.addr {A : Option Addr} {m c : Nat} (h : SlM w ok (.slice A m c) n xs) (hn : 0 < n) : ∃ b off, A = some ⟨b, off, none⟩ ∧ ok b ∧ b < w.heap.size ∧ ∀ k u, xs[k]? = some u → w.cell? ⟨b, off + k, none⟩ = some u := by
  obtain ⟨b, off, cap, hv, hb, hl, _, _, hc⟩ := h.open_ hn
  injection hv with hA
  exact ⟨b, off, hA, hb, hl, hc⟩
theorem SlM.of_own {base : Nat} {e : TypeId} {size : Nat} (h : w.ownsRow base e size v n xs) : SlM w (fun b => some b = v.ownBlock ∧ base ≤ b) v n xs := by
  obtain ⟨hl, h⟩ := h
  rcases h with ⟨rfl, rfl⟩ | ⟨g, cap, cur, rfl, hg, hh, hnc, hcm, hsz', hx⟩
  · exact SlM.nil _ _
  · refine ⟨_, cap, rfl, by omega, hcm, fun hn => ⟨g, 0, rfl, ⟨rfl, hg⟩, ?_, fun i u hu => ?_⟩⟩
    · rcases Nat.lt_or_ge g w.heap.size with hlt | hge
      · exact hlt
      · rw [Array.getElem?_eq_none hge] at hh; cases hh
    · rw [Nat.zero_add, cell_of_row _ _ i _ _ _ hh]
      have hi : i < n * size := by rw [← hl]; exact (List.getElem?_eq_some_iff.1 hu).1
      rw [← hx, List.getElem?_take_of_lt (by omega)] at hu
      simpa using hu
theorem Sl.of_m (h : SlM w ok v n xs) (hx : xs.length = n) : Sl w ok v xs := by
  obtain ⟨A, cap, hv, h1, h2, h3⟩ := h
  refine ⟨A, cap, by rw [hx]; exact hv, by omega, h2, fun hn => ?_⟩
  obtain ⟨b, off, rfl, hb, hl, hc⟩ := h3 (by omega)
  exact ⟨_, rfl, hb, hl, fun i u hu => by rw [add_plain]; exact hc i u hu⟩
end
theorem SlM.ge {w : World} {ok : Nat → Prop} {A : Option Addr} {m c n : Nat} {xs : List Value} (h : SlM w ok (.slice A m c) n xs) : m = n := h.caps.1
/-- A slice of strings. -/
def scells (l : List Src) : List Value := l.map fun s => .string (Bs s)
theorem scells_len (l : List Src) : (scells l).length = l.length := by simp [scells]
theorem scells_at (l : List Src) (i : Nat) (h : i < l.length) : (scells l)[i]? = some (.string (Bs l[i])) := by simp [scells, h]
def StM (P : Nat → Prop) (w : World) (v : Value) (l : List Src) : Prop := SlM w P v l.length (scells l)
/-- A slice of slices of strings. -/
def RwM (P : Nat → Prop) (w : World) (v : Value) (rows : List (List Src)) : Prop :=
  ∃ vs : List Value, vs.length = rows.length ∧ SlM w P v rows.length vs ∧ ∀ i (h : i < vs.length) (h2 : i < rows.length), StM P w vs[i] rows[i]
theorem StM.later {P : Nat → Prop} {w w' : World} {v : Value} {l : List Src} (h : StM P w v l) (hb : Below w.heap.size w w') : StM P w' v l := SlM.later h hb
theorem RwM.later {P : Nat → Prop} {w w' : World} {v : Value} {rows : List (List Src)} (h : RwM P w v rows) (hb : Below w.heap.size w w') : RwM P w' v rows := by
  obtain ⟨vs, h1, h2, h3⟩ := h
  exact ⟨vs, h1, h2.later hb, fun i a b => (h3 i a b).later hb⟩
theorem RwM.form {P : Nat → Prop} {w : World} {v : Value} {rows : List (List Src)} (h : RwM P w v rows) : ∃ A cap, v = .slice A rows.length cap := by
  obtain ⟨vs, h1, h2, h3⟩ := h
  obtain ⟨A, cap, hv, _⟩ := h2
  exact ⟨A, cap, hv⟩
/-- Row i of a table. -/
theorem RwM.at_ {P : Nat → Prop} {w : World} {A : Option Addr} {m c : Nat} {rows : List (List Src)} (h : RwM P w (.slice A m c) rows) (hn : 0 < rows.length) :
    ∃ b off, A = some ⟨b, off, none⟩ ∧ b < w.heap.size ∧ ∀ i (hi : i < rows.length), ∃ (A2 : Option Addr) (c2 : Nat), w.cell? ⟨b, off + i, none⟩ = some (.slice A2 rows[i].length c2) ∧ StM P w (.slice A2 rows[i].length c2) rows[i] := by
  obtain ⟨vs, h1, h2, h3⟩ := h
  obtain ⟨b, off, rfl, _, hl, hc⟩ := SlM.addr h2 hn
  refine ⟨b, off, rfl, hl, fun i hi => ?_⟩
  have hi2 : i < vs.length := by omega
  have hs := h3 i hi2 hi
  obtain ⟨A2, c2, e⟩ := hs.form
  refine ⟨A2, c2, ?_, by rw [← e]; exact hs⟩
  rw [hc i vs[i] (List.getElem?_eq_getElem hi2), e]
/-- String i of a slice of strings. -/
theorem StM.at_ {P : Nat → Prop} {w : World} {A : Option Addr} {m c : Nat} {l : List Src} (h : StM P w (.slice A m c) l) (hn : 0 < l.length) :
    ∃ b off, A = some ⟨b, off, none⟩ ∧ b < w.heap.size ∧ ∀ i (hi : i < l.length), w.cell? ⟨b, off + i, none⟩ = some (.string (Bs l[i])) := by
  obtain ⟨b, off, rfl, _, hl, hc⟩ := SlM.addr h hn
  exact ⟨b, off, rfl, hl, fun i hi => hc i _ (scells_at l i hi)⟩
end Go.Proofs.YtcbnelklilamgaaDoor
