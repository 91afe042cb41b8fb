/- Fonts as they lie in memory. -/
import Derived.Test.YtefkglmdkjkbiaaDoorProg
import Derived.Test.YtefkglmdkjkbiaaDoorKit
import Derived.Test.YtefkglmdkjkbiaaDoorFntCheck
namespace Go.Proofs.YtefkglmdkjkbiaaDoor
open Go.RowKit Fnt
/-- A slice value whose n elements lie as the cells xs, in a block of which ok is known. -/
def SlM (w : World) (ok : Nat → Prop) (v : Value) (n : Nat) (xs : List Value) : Prop :=
  ∃ A cap, v = .slice A n cap ∧ n ≤ cap ∧ cap ≤ maxLen ∧
    (0 < n → ∃ b off, A = some ⟨b, off, none⟩ ∧ ok b ∧ b < w.heap.size ∧ ∀ k u, xs[k]? = some u → w.cell? ⟨b, off + k, none⟩ = some u)
section
variable {w w' : World} {ok ok' : Nat → Prop} {v : Value} {n : Nat} {xs : List Value}
theorem SlM.nil (w : World) (ok : Nat → Prop) : SlM w ok (.slice none 0 0) 0 xs := ⟨none, 0, rfl, Nat.le_refl _, by simp, fun h => absurd h (by simp)⟩
theorem SlM.mono (h : SlM w ok v n xs) (hk : ∀ b, b < w.heap.size → ok b → ok' b) : SlM w ok' v n xs := by
  obtain ⟨A, cap, hv, h1, h2, h3⟩ := h
  exact ⟨A, cap, hv, h1, h2, fun hn => by obtain ⟨b, off, ha, hb, hl, hc⟩ := h3 hn; exact ⟨b, off, ha, hk _ hl hb, hl, hc⟩⟩
theorem SlM.keep (h : SlM w ok v n xs) (hs : w.heap.size ≤ w'.heap.size) (hk : ∀ b, ok b → b < w.heap.size → w'.heap[b]? = w.heap[b]?) : SlM w' ok v n xs := by
  obtain ⟨A, cap, hv, h1, h2, h3⟩ := h
  refine ⟨A, cap, hv, h1, h2, fun hn => ?_⟩
  obtain ⟨b, off, ha, hb, hl, hc⟩ := h3 hn
  refine ⟨b, off, ha, hb, Nat.lt_of_lt_of_le hl hs, fun i u hu => ?_⟩
  rw [World.cell?_of_block (w := w) (a := ⟨b, off + i, none⟩) (hk _ hb hl)]
  exact hc i u hu
theorem SlM.drewN (h : SlM w ok v n xs) (k : Nat) : SlM (w.drewN k) ok v n xs := h
theorem SlM.drew (h : SlM w ok v n xs) : SlM w.drew ok v n xs := h
theorem SlM.alloc (h : SlM w ok v n xs) (o : Obj) : SlM (w.alloc o) ok v n xs := h.keep (by simp) fun b _ hl => Below.heap_alloc w o b hl
theorem SlM.later (h : SlM w ok v n xs) (hb : Below w.heap.size w w') : SlM w' ok v n xs := h.keep hb.size fun b _ hl => hb.block b hl
theorem SlM.below {B : Nat} (h : SlM w ok v n xs) (hb : Below B w w') (hB : ∀ b, ok b → b < w.heap.size → b < B) : SlM w' ok v n xs := h.keep hb.size fun b ho hl => hb.block b (hB b ho hl)
theorem SlM.grown {row : Option Nat} (h : SlM w ok v n xs) (hb : w.grownBy w' row) (hr : ∀ b, ok b → some b ≠ row) : SlM w' ok v n xs := h.keep hb.size fun b ho hl => hb.block b hl (hr b ho)
theorem SlM.far (h : SlM w ok v n xs) {p : Addr} (hp : ¬ ok p.block) (u : Value) : SlM (w.setCell p u) ok v n xs :=
  h.keep (by simp [World.setCell]) fun b ho _ => Below.heap_setCell w p u b (fun e => hp (e ▸ ho))
theorem SlM.form (h : SlM w ok v n xs) : ∃ A cap, v = .slice A n cap := by obtain ⟨A, cap, hv, _⟩ := h; exact ⟨A, cap, hv⟩
theorem SlM.caps {A : Option Addr} {m c : Nat} (h : SlM w ok (.slice A m c) n xs) : m = n ∧ n ≤ c ∧ c ≤ maxLen := by
  obtain ⟨A', cap, hv, h1, h2, _⟩ := h
  injection hv with _ hn hc
  subst hn; subst hc
  exact ⟨rfl, h1, h2⟩
theorem SlM.open_ (h : SlM w ok v n xs) (hn : 0 < n) : ∃ b off cap, v = .slice (some ⟨b, off, none⟩) n cap ∧ ok b ∧ b < w.heap.size ∧ n ≤ cap ∧ cap ≤ maxLen ∧ ∀ k u, xs[k]? = some u → w.cell? ⟨b, off + k, none⟩ = some u := by
  obtain ⟨A, cap, hv, h1, h2, h3⟩ := h
  obtain ⟨b, off, rfl, hb, hl, hc⟩ := h3 hn
  exact ⟨b, off, cap, hv, hb, hl, h1, h2, hc⟩
theorem SlM.addr {A : Option Addr} {m c : Nat} (h : SlM w ok (.slice A m c) n xs) (hn : 0 < n) : ∃ b off, A = some ⟨b, off, none⟩ ∧ ok b ∧ b < w.heap.size ∧ ∀ k u, xs[k]? = some u → w.cell? ⟨b, off + k, none⟩ = some u := by
  obtain ⟨b, off, cap, hv, hb, hl, _, _, hc⟩ := h.open_ hn
  injection hv with hA
  exact ⟨b, off, hA, hb, hl, hc⟩
theorem SlM.of_own {base : Nat} {e : TypeId} {size : Nat} (h : w.ownsRow base e size v n xs) : SlM w (fun b => some b = v.ownBlock ∧ base ≤ b) v n xs := by
  obtain ⟨hl, h⟩ := h
  rcases h with ⟨rfl, rfl⟩ | ⟨g, cap, cur, rfl, hg, hh, hnc, hcm, hsz', hx⟩
  · exact SlM.nil _ _
  · refine ⟨_, cap, rfl, by omega, hcm, fun hn => ⟨g, 0, rfl, ⟨rfl, hg⟩, ?_, fun i u hu => ?_⟩⟩
    · rcases Nat.lt_or_ge g w.heap.size with hlt | hge
      · exact hlt
      · rw [Array.getElem?_eq_none hge] at hh; cases hh
    · rw [Nat.zero_add, cell_of_row _ _ i _ _ _ hh]
      have hi : i < n * size := by rw [← hl]; exact (List.getElem?_eq_some_iff.1 hu).1
      rw [← hx, List.getElem?_take_of_lt (by omega)] at hu
      simpa using hu
theorem Sl.of_m (h : SlM w ok v n xs) (hx : xs.length = n) : Sl w ok v xs := by
  obtain ⟨A, cap, hv, h1, h2, h3⟩ := h
  refine ⟨A, cap, by rw [hx]; exact hv, by omega, h2, fun hn => ?_⟩
  obtain ⟨b, off, rfl, hb, hl, hc⟩ := h3 (by omega)
  exact ⟨_, rfl, hb, hl, fun i u hu => by rw [add_plain]; exact hc i u hu⟩
end
/-! Elements of m cells each. -/
theorem flat_length {α : Type} {f : α → List Value} {m : Nat} (hf : ∀ a, (f a).length = m) (l : List α) : (l.flatMap f).length = l.length * m := by
  induction l with
  | nil => simp
  | cons x l ih => simp only [List.flatMap_cons, List.length_append, List.length_cons, hf, ih, Nat.add_mul]; omega
theorem flat_at {α : Type} {f : α → List Value} {m : Nat} (hf : ∀ a, (f a).length = m) (d : α) (l : List α) (i j : Nat) (hi : i < l.length) (hj : j < m) : (l.flatMap f)[i * m + j]? = (f (l.getD i d))[j]? := by
  induction l generalizing i with
  | nil => simp at hi
  | cons x l ih =>
    cases i with
    | zero => simp only [List.flatMap_cons]; rw [List.getElem?_append_left (by rw [hf]; omega)]; simp
    | succ i =>
      have := ih i (by simpa using hi)
      simp only [List.flatMap_cons]
      rw [List.getElem?_append_right (by rw [hf, Nat.add_mul]; omega), hf, show (i + 1) * m + j - m = i * m + j by rw [Nat.add_mul]; omega, this]
      rfl
/-- The cells of element i. -/
theorem SlM.elem {α : Type} {f : α → List Value} {m : Nat} (hf : ∀ a, (f a).length = m) (d : α) {w : World} {ok : Nat → Prop} {v : Value} {l : List α} (h : SlM w ok v l.length (l.flatMap f)) (hn : 0 < l.length) :
    ∃ b off cap, v = .slice (some ⟨b, off, none⟩) l.length cap ∧ ok b ∧ b < w.heap.size ∧ l.length ≤ cap ∧ cap ≤ maxLen ∧ ∀ i, i < l.length → ∀ j u, j < m → (f (l.getD i d))[j]? = some u → w.cell? ⟨b, off + i * m + j, none⟩ = some u := by
  obtain ⟨b, off, cap, hv, hb, hl, h1, h2, hc⟩ := SlM.open_ h hn
  refine ⟨b, off, cap, hv, hb, hl, h1, h2, fun i hi j u hj hu => ?_⟩
  rw [Nat.add_assoc]; exact hc _ u ((flat_at hf d l i j hi hj).trans hu)
def ptc (p : Pt) : List Value := [.int .i64 p.x, .int .i64 p.y, .bool p.on]
def pac (p : Part) : List Value := [.int .i64 p.g, .int .i64 p.x, .int .i64 p.y]
def rgc (m : Rg) : List Value := [.int .i64 m.lo, .int .i64 m.hi, .int .i64 m.g]
def kpc (k : Kp) : List Value := [.int .i64 k.l, .int .i64 k.r, .int .i64 k.by_]
def Pts (w : World) (ok : Nat → Prop) (v : Value) (l : List Pt) : Prop := SlM w ok v l.length (l.flatMap ptc)
def Pas (w : World) (ok : Nat → Prop) (v : Value) (l : List Part) : Prop := SlM w ok v l.length (l.flatMap pac)
def Cons (w : World) (ok : Nat → Prop) (v : Value) (cs : List (List Pt)) : Prop := ∃ vs : Nat → Value, SlM w ok v cs.length ((List.range cs.length).map vs) ∧ ∀ i, i < cs.length → Pts w ok (vs i) (cs.getD i [])
def glc (gs : List Gl) (vs : Nat → Value × Value) (i : Nat) : List Value := [.int .i64 (gs.getD i default).adv, (vs i).1, (vs i).2]
def Gls (w : World) (ok : Nat → Prop) (v : Value) (gs : List Gl) : Prop := ∃ vs : Nat → Value × Value, SlM w ok v gs.length ((List.range gs.length).flatMap (glc gs vs)) ∧ ∀ i, i < gs.length → Cons w ok (vs i).1 (gs.getD i default).cs ∧ Pas w ok (vs i).2 (gs.getD i default).ps
/-- A value reads as a font. -/
def FntV (w : World) (ok : Nat → Prop) (v : Value) (F : Font) : Prop := ∃ vg vm vk, v = .agg #[.int .i64 F.unit, vg, vm, vk] ∧ Gls w ok vg F.gs ∧ SlM w ok vm F.map.length (F.map.flatMap rgc) ∧ SlM w ok vk F.kern.length (F.kern.flatMap kpc)
section
variable {w w' : World} {ok ok' : Nat → Prop} {v : Value}
theorem Cons.keep {cs : List (List Pt)} (h : Cons w ok v cs) (hs : w.heap.size ≤ w'.heap.size) (hk : ∀ b, ok b → b < w.heap.size → w'.heap[b]? = w.heap[b]?) : Cons w' ok v cs := by
  obtain ⟨vs, h1, h2⟩ := h
  exact ⟨vs, h1.keep hs hk, fun i hi => (h2 i hi).keep hs hk⟩
theorem Gls.keep {gs : List Gl} (h : Gls w ok v gs) (hs : w.heap.size ≤ w'.heap.size) (hk : ∀ b, ok b → b < w.heap.size → w'.heap[b]? = w.heap[b]?) : Gls w' ok v gs := by
  obtain ⟨vs, h1, h2⟩ := h
  exact ⟨vs, h1.keep hs hk, fun i hi => ⟨(h2 i hi).1.keep hs hk, (h2 i hi).2.keep hs hk⟩⟩
theorem FntV.keep {F : Font} (h : FntV w ok v F) (hs : w.heap.size ≤ w'.heap.size) (hk : ∀ b, ok b → b < w.heap.size → w'.heap[b]? = w.heap[b]?) : FntV w' ok v F := by
  obtain ⟨vg, vm, vk, hv, h1, h2, h3⟩ := h
  exact ⟨vg, vm, vk, hv, h1.keep hs hk, h2.keep hs hk, h3.keep hs hk⟩
theorem FntV.later {F : Font} (h : FntV w ok v F) (hb : Below w.heap.size w w') : FntV w' ok v F := h.keep hb.size fun b _ hl => hb.block b hl
theorem FntV.below {F : Font} {B : Nat} (h : FntV w ok v F) (hb : Below B w w') (hB : ∀ b, ok b → b < w.heap.size → b < B) : FntV w' ok v F := h.keep hb.size fun b ho hl => hb.block b (hB b ho hl)
theorem Gls.later {gs : List Gl} (h : Gls w ok v gs) (hb : Below w.heap.size w w') : Gls w' ok v gs := h.keep hb.size fun b _ hl => hb.block b hl
theorem Pts.cells {l : List Pt} (h : Pts w ok v l) (hn : 0 < l.length) : ∃ b off cap, v = .slice (some ⟨b, off, none⟩) l.length cap ∧ ok b ∧ b < w.heap.size ∧ l.length ≤ cap ∧ cap ≤ maxLen ∧
    ∀ i, i < l.length → w.cell? ⟨b, off + i * 3, none⟩ = some (.int .i64 (pt l i).x) ∧ w.cell? ⟨b, off + i * 3 + 1, none⟩ = some (.int .i64 (pt l i).y) ∧ w.cell? ⟨b, off + i * 3 + 2, none⟩ = some (.bool (pt l i).on) := by
  obtain ⟨b, off, cap, hv, hb, hl, h1, h2, hc⟩ := SlM.elem (m := 3) (fun _ => rfl) default h hn
  exact ⟨b, off, cap, hv, hb, hl, h1, h2, fun i hi => ⟨hc i hi 0 _ (by omega) rfl, hc i hi 1 _ (by omega) rfl, hc i hi 2 _ (by omega) rfl⟩⟩
theorem Pas.cells {l : List Part} (h : Pas w ok v l) (hn : 0 < l.length) : ∃ b off cap, v = .slice (some ⟨b, off, none⟩) l.length cap ∧ ok b ∧ b < w.heap.size ∧ l.length ≤ cap ∧ cap ≤ maxLen ∧
    ∀ i, i < l.length → w.cell? ⟨b, off + i * 3, none⟩ = some (.int .i64 (l.getD i default).g) ∧ w.cell? ⟨b, off + i * 3 + 1, none⟩ = some (.int .i64 (l.getD i default).x) ∧ w.cell? ⟨b, off + i * 3 + 2, none⟩ = some (.int .i64 (l.getD i default).y) := by
  obtain ⟨b, off, cap, hv, hb, hl, h1, h2, hc⟩ := SlM.elem (m := 3) (fun _ => rfl) default h hn
  exact ⟨b, off, cap, hv, hb, hl, h1, h2, fun i hi => ⟨hc i hi 0 _ (by omega) rfl, hc i hi 1 _ (by omega) rfl, hc i hi 2 _ (by omega) rfl⟩⟩
theorem rgs_cells {l : List Rg} (h : SlM w ok v l.length (l.flatMap rgc)) (hn : 0 < l.length) : ∃ b off cap, v = .slice (some ⟨b, off, none⟩) l.length cap ∧ ok b ∧ b < w.heap.size ∧ l.length ≤ cap ∧ cap ≤ maxLen ∧
    ∀ i, i < l.length → w.cell? ⟨b, off + i * 3, none⟩ = some (.int .i64 (l.getD i default).lo) ∧ w.cell? ⟨b, off + i * 3 + 1, none⟩ = some (.int .i64 (l.getD i default).hi) ∧ w.cell? ⟨b, off + i * 3 + 2, none⟩ = some (.int .i64 (l.getD i default).g) := by
  obtain ⟨b, off, cap, hv, hb, hl, h1, h2, hc⟩ := SlM.elem (m := 3) (fun _ => rfl) default h hn
  exact ⟨b, off, cap, hv, hb, hl, h1, h2, fun i hi => ⟨hc i hi 0 _ (by omega) rfl, hc i hi 1 _ (by omega) rfl, hc i hi 2 _ (by omega) rfl⟩⟩
theorem kps_cells {l : List Kp} (h : SlM w ok v l.length (l.flatMap kpc)) (hn : 0 < l.length) : ∃ b off cap, v = .slice (some ⟨b, off, none⟩) l.length cap ∧ ok b ∧ b < w.heap.size ∧ l.length ≤ cap ∧ cap ≤ maxLen ∧
    ∀ i, i < l.length → w.cell? ⟨b, off + i * 3, none⟩ = some (.int .i64 (l.getD i default).l) ∧ w.cell? ⟨b, off + i * 3 + 1, none⟩ = some (.int .i64 (l.getD i default).r) ∧ w.cell? ⟨b, off + i * 3 + 2, none⟩ = some (.int .i64 (l.getD i default).by_) := by
  obtain ⟨b, off, cap, hv, hb, hl, h1, h2, hc⟩ := SlM.elem (m := 3) (fun _ => rfl) default h hn
  exact ⟨b, off, cap, hv, hb, hl, h1, h2, fun i hi => ⟨hc i hi 0 _ (by omega) rfl, hc i hi 1 _ (by omega) rfl, hc i hi 2 _ (by omega) rfl⟩⟩
theorem Cons.cells {cs : List (List Pt)} (h : Cons w ok v cs) (hn : 0 < cs.length) : ∃ (b off cap : Nat) (vs : Nat → Value), v = .slice (some ⟨b, off, none⟩) cs.length cap ∧ ok b ∧ b < w.heap.size ∧ cs.length ≤ cap ∧ cap ≤ maxLen ∧
    ∀ i, i < cs.length → w.cell? ⟨b, off + i, none⟩ = some (vs i) ∧ Pts w ok (vs i) (cs.getD i []) := by
  obtain ⟨vs, hs, hp⟩ := h
  obtain ⟨b, off, cap, hv, hb, hl, h1, h2, hc⟩ := SlM.open_ hs hn
  exact ⟨b, off, cap, vs, hv, hb, hl, h1, h2, fun i hi => ⟨hc i _ (by rw [List.getElem?_map, List.getElem?_range hi]; rfl), hp i hi⟩⟩
theorem Gls.cells {gs : List Gl} (h : Gls w ok v gs) (hn : 0 < gs.length) : ∃ (b off cap : Nat) (vs : Nat → Value × Value), v = .slice (some ⟨b, off, none⟩) gs.length cap ∧ ok b ∧ b < w.heap.size ∧ gs.length ≤ cap ∧ cap ≤ maxLen ∧
    ∀ i, i < gs.length → w.cell? ⟨b, off + i * 3, none⟩ = some (.int .i64 (gs.getD i default).adv) ∧ w.cell? ⟨b, off + i * 3 + 1, none⟩ = some (vs i).1 ∧ w.cell? ⟨b, off + i * 3 + 2, none⟩ = some (vs i).2 ∧
      Cons w ok (vs i).1 (gs.getD i default).cs ∧ Pas w ok (vs i).2 (gs.getD i default).ps := by
  obtain ⟨vs, hs, hp⟩ := h
  have hs2 : SlM w ok v (List.range gs.length).length ((List.range gs.length).flatMap (glc gs vs)) := by rw [List.length_range]; exact hs
  obtain ⟨b, off, cap, hv, hb, hl, h1, h2, hc⟩ := SlM.elem (m := 3) (fun _ => rfl) 0 hs2 (by rw [List.length_range]; exact hn)
  rw [List.length_range] at hv h1 hc
  refine ⟨b, off, cap, vs, hv, hb, hl, h1, h2, fun i hi => ?_⟩
  have e : (List.range gs.length).getD i 0 = i := by rw [List.getD_eq_getElem?_getD, List.getElem?_range hi]; rfl
  have hc2 := hc i hi
  rw [e] at hc2
  exact ⟨hc2 0 _ (by omega) rfl, hc2 1 _ (by omega) rfl, hc2 2 _ (by omega) rfl, (hp i hi).1, (hp i hi).2⟩
end
end Go.Proofs.YtefkglmdkjkbiaaDoor
