/- Rules, conditions and facts as they lie in memory. -/
import Derived.Test.YtonmpealebggoaaGreatDoorPrpPlain
import Derived.Test.YtonmpealebggoaaGreatDoorKit
namespace Go.Proofs.YtonmpealebggoaaGreatDoor
open Go.RowKit Pr
/-- A slice value whose n elements lie as the cells xs, in a block of which ok is known. -/
def SlM (w : World) (ok : Nat → Prop) (v : Value) (n : Nat) (xs : List Value) : Prop :=
  ∃ A cap, v = .slice A n cap ∧ n ≤ cap ∧ cap ≤ maxLen ∧
    (0 < n → ∃ b off, A = some ⟨b, off, none⟩ ∧ ok b ∧ b < w.heap.size ∧ ∀ k u, xs[k]? = some u → w.cell? ⟨b, off + k, none⟩ = some u)
section
variable {w w' : World} {ok ok' : Nat → Prop} {v : Value} {n : Nat} {xs : List Value}
theorem SlM.nil (w : World) (ok : Nat → Prop) : SlM w ok (.slice none 0 0) 0 xs := ⟨none, 0, rfl, Nat.le_refl _, by simp, fun h => absurd h (by simp)⟩
theorem SlM.mono (h : SlM w ok v n xs) (hk : ∀ b, b < w.heap.size → ok b → ok' b) : SlM w ok' v n xs := by
  obtain ⟨A, cap, hv, h1, h2, h3⟩ := h
  exact ⟨A, cap, hv, h1, h2, fun hn => by obtain ⟨b, off, ha, hb, hl, hc⟩ := h3 hn; exact ⟨b, off, ha, hk _ hl hb, hl, hc⟩⟩
theorem SlM.keep (h : SlM w ok v n xs) (hs : w.heap.size ≤ w'.heap.size) (hk : ∀ b, ok b → b < w.heap.size → w'.heap[b]? = w.heap[b]?) : SlM w' ok v n xs := by
  obtain ⟨A, cap, hv, h1, h2, h3⟩ := h
  refine ⟨A, cap, hv, h1, h2, fun hn => ?_⟩
  obtain ⟨b, off, ha, hb, hl, hc⟩ := h3 hn
  refine ⟨b, off, ha, hb, Nat.lt_of_lt_of_le hl hs, fun i u hu => ?_⟩
  rw [World.cell?_of_block (w := w) (a := ⟨b, off + i, none⟩) (hk _ hb hl)]
  exact hc i u hu
theorem SlM.drewN (h : SlM w ok v n xs) (k : Nat) : SlM (w.drewN k) ok v n xs := h
theorem SlM.drew (h : SlM w ok v n xs) : SlM w.drew ok v n xs := h
theorem SlM.alloc (h : SlM w ok v n xs) (o : Obj) : SlM (w.alloc o) ok v n xs := h.keep (by simp) fun b _ hl => Below.heap_alloc w o b hl
theorem SlM.later (h : SlM w ok v n xs) (hb : Below w.heap.size w w') : SlM w' ok v n xs := h.keep hb.size fun b _ hl => hb.block b hl
theorem SlM.below {B : Nat} (h : SlM w ok v n xs) (hb : Below B w w') (hB : ∀ b, ok b → b < w.heap.size → b < B) : SlM w' ok v n xs := h.keep hb.size fun b ho hl => hb.block b (hB b ho hl)
theorem SlM.grown {row : Option Nat} (h : SlM w ok v n xs) (hb : w.grownBy w' row) (hr : ∀ b, ok b → some b ≠ row) : SlM w' ok v n xs := h.keep hb.size fun b ho hl => hb.block b hl (hr b ho)
theorem SlM.far (h : SlM w ok v n xs) {p : Addr} (hp : ¬ ok p.block) (u : Value) : SlM (w.setCell p u) ok v n xs :=
  h.keep (by simp [World.setCell]) fun b ho _ => Below.heap_setCell w p u b (fun e => hp (e ▸ ho))
theorem SlM.form (h : SlM w ok v n xs) : ∃ A cap, v = .slice A n cap := by obtain ⟨A, cap, hv, _⟩ := h; exact ⟨A, cap, hv⟩
theorem SlM.caps {A : Option Addr} {m c : Nat} (h : SlM w ok (.slice A m c) n xs) : m = n ∧ n ≤ c ∧ c ≤ maxLen := by
  obtain ⟨A', cap, hv, h1, h2, _⟩ := h
  injection hv with _ hn hc
  subst hn; subst hc
  exact ⟨rfl, h1, h2⟩
theorem SlM.open_ (h : SlM w ok v n xs) (hn : 0 < n) : ∃ b off cap, v = .slice (some ⟨b, off, none⟩) n cap ∧ ok b ∧ b < w.heap.size ∧ n ≤ cap ∧ cap ≤ maxLen ∧ ∀ k u, xs[k]? = some u → w.cell? ⟨b, off + k, none⟩ = some u := by
  obtain ⟨A, cap, hv, h1, h2, h3⟩ := h
  obtain ⟨b, off, rfl, hb, hl, hc⟩ := h3 hn
  exact ⟨b, off, cap, hv, hb, hl, h1, h2, hc⟩
theorem SlM.addr {A : Option Addr} {m c : Nat} (h : SlM w ok (.slice A m c) n xs) (hn : 0 < n) : ∃ b off, A = some ⟨b, off, none⟩ ∧ ok b ∧ b < w.heap.size ∧ ∀ k u, xs[k]? = some u → w.cell? ⟨b, off + k, none⟩ = some u := by
  obtain ⟨b, off, cap, hv, hb, hl, _, _, hc⟩ := h.open_ hn
  injection hv with hA
  exact ⟨b, off, hA, hb, hl, hc⟩
theorem SlM.of_own {base : Nat} {e : TypeId} {size : Nat} (h : w.ownsRow base e size v n xs) : SlM w (fun b => some b = v.ownBlock ∧ base ≤ b) v n xs := by
  obtain ⟨hl, h⟩ := h
  rcases h with ⟨rfl, rfl⟩ | ⟨g, cap, cur, rfl, hg, hh, hnc, hcm, hsz', hx⟩
  · exact SlM.nil _ _
  · refine ⟨_, cap, rfl, by omega, hcm, fun hn => ⟨g, 0, rfl, ⟨rfl, hg⟩, ?_, fun i u hu => ?_⟩⟩
    · rcases Nat.lt_or_ge g w.heap.size with hlt | hge
      · exact hlt
      · rw [Array.getElem?_eq_none hge] at hh; cases hh
    · rw [Nat.zero_add, cell_of_row _ _ i _ _ _ hh]
      have hi : i < n * size := by rw [← hl]; exact (List.getElem?_eq_some_iff.1 hu).1
      rw [← hx, List.getElem?_take_of_lt (by omega)] at hu
      simpa using hu
theorem Sl.of_m (h : SlM w ok v n xs) (hx : xs.length = n) : Sl w ok v xs := by
  obtain ⟨A, cap, hv, h1, h2, h3⟩ := h
  refine ⟨A, cap, by rw [hx]; exact hv, by omega, h2, fun hn => ?_⟩
  obtain ⟨b, off, rfl, hb, hl, hc⟩ := h3 (by omega)
  exact ⟨_, rfl, hb, hl, fun i u hu => by rw [add_plain]; exact hc i u hu⟩
end
/-! Elements of m cells each. -/
theorem flat_length {α : Type} {f : α → List Value} {m : Nat} (hf : ∀ a, (f a).length = m) (l : List α) : (l.flatMap f).length = l.length * m := by
  induction l with
  | nil => simp
  | cons x l ih => simp only [List.flatMap_cons, List.length_append, List.length_cons, hf, ih, Nat.add_mul]; omega
theorem flat_at {α : Type} {f : α → List Value} {m : Nat} (hf : ∀ a, (f a).length = m) (d : α) (l : List α) (i j : Nat) (hi : i < l.length) (hj : j < m) : (l.flatMap f)[i * m + j]? = (f (l.getD i d))[j]? := by
  induction l generalizing i with
  | nil => simp at hi
  | cons x l ih =>
    cases i with
    | zero => simp only [List.flatMap_cons]; rw [List.getElem?_append_left (by rw [hf]; omega)]; simp
    | succ i =>
      have := ih i (by simpa using hi)
      simp only [List.flatMap_cons]
      rw [List.getElem?_append_right (by rw [hf, Nat.add_mul]; omega), hf, show (i + 1) * m + j - m = i * m + j by rw [Nat.add_mul]; omega, this]
      rfl
/-- The cells of element i. -/
theorem SlM.elem {α : Type} {f : α → List Value} {m : Nat} (hf : ∀ a, (f a).length = m) (d : α) {w : World} {ok : Nat → Prop} {v : Value} {l : List α} (h : SlM w ok v l.length (l.flatMap f)) (hn : 0 < l.length) :
    ∃ b off cap, v = .slice (some ⟨b, off, none⟩) l.length cap ∧ ok b ∧ b < w.heap.size ∧ l.length ≤ cap ∧ cap ≤ maxLen ∧ ∀ i, i < l.length → ∀ j u, j < m → (f (l.getD i d))[j]? = some u → w.cell? ⟨b, off + i * m + j, none⟩ = some u := by
  obtain ⟨b, off, cap, hv, hb, hl, h1, h2, hc⟩ := SlM.open_ h hn
  refine ⟨b, off, cap, hv, hb, hl, h1, h2, fun i hi j u hj hu => ?_⟩
  rw [Nat.add_assoc]; exact hc _ u ((flat_at hf d l i j hi hj).trans hu)
/-- The five cells of a condition: kind, terms, comparison, number, kids. -/
structure V5 where
  k : Value
  t : Value
  c : Value
  n : Value
  d : Value
def V5.cells (v : V5) : List Value := [v.k, v.t, v.c, v.n, v.d]
def V5.val (v : V5) : Value := .agg #[v.k, v.t, v.c, v.n, v.d]
def v5cs (l : List V5) : List Value := l.flatMap V5.cells
theorem v5len (v : V5) : v.cells.length = 5 := rfl
theorem v5cs_len (l : List V5) : (v5cs l).length = l.length * 5 := flat_length v5len l
theorem v5cs_snoc (l : List V5) (v : V5) : v5cs (l ++ [v]) = v5cs l ++ v.cells := by unfold v5cs; rw [List.flatMap_append]; simp
theorem v5cs_get (l : List V5) (i j : Nat) (hi : i < l.length) (hj : j < 5) : (v5cs l)[i * 5 + j]? = l[i].cells[j]? := by
  have := flat_at (f := V5.cells) v5len l[i] l i j hi hj
  rw [List.getD_eq_getElem?_getD, List.getElem?_eq_getElem hi] at this
  exact this
def tcell (t : Tm) : List Value := [.int .i64 t.1, .string ⟨t.2.toArray⟩]
def tcells (l : List Tm) : List Value := l.flatMap tcell
theorem tlen (t : Tm) : (tcell t).length = 2 := rfl
theorem tcells_len (l : List Tm) : (tcells l).length = l.length * 2 := flat_length tlen l
theorem tcells_snoc (l : List Tm) (t : Tm) : tcells (l ++ [t]) = tcells l ++ tcell t := by unfold tcells; rw [List.flatMap_append]; simp
def tm0 : Tm := (0, [])
/-- The cells of a term. -/
theorem tm_at {P : Nat → Prop} {w : World} {A : Option Addr} {n c : Nat} {l : List Tm} (h : SlM w P (.slice A n c) l.length (tcells l)) (hn : 0 < l.length) : ∃ b off, A = some ⟨b, off, none⟩ ∧ P b ∧ b < w.heap.size ∧
    ∀ i, i < l.length → w.cell? ⟨b, off + i * 2, none⟩ = some (.int .i64 (l.getD i tm0).1) ∧ w.cell? ⟨b, off + i * 2 + 1, none⟩ = some (.string ⟨(l.getD i tm0).2.toArray⟩) := by
  obtain ⟨b, off, hA, hb, hl, hc⟩ := h.addr hn
  refine ⟨b, off, hA, hb, hl, fun i hi => ?_⟩
  have key : ∀ j u, j < 2 → (tcell (l.getD i tm0))[j]? = some u → w.cell? ⟨b, off + i * 2 + j, none⟩ = some u := fun j u hj hu => by
    have := hc (i * 2 + j) u ((flat_at tlen tm0 l i j hi hj).trans hu)
    rwa [← Nat.add_assoc] at this
  exact ⟨key 0 _ (by omega) rfl, key 1 _ (by omega) rfl⟩
/-- What an int holds. -/
def I64 (k : Int) : Prop := -9223372036854775808 ≤ k ∧ k ≤ 9223372036854775807
/-- Five values that read as a condition; all its blocks are such as P says. -/
inductive CdV (P : Nat → Prop) (w : World) : V5 → Cd → Prop
  | mk (k : Int) (ts : List Tm) (c n : Int) (kids : List Cd) (tv dv : Value) (vs : List V5)
      (ht : SlM w P tv ts.length (tcells ts)) (hd : SlM w P dv kids.length (v5cs vs)) (hl : vs.length = kids.length)
      (hkid : ∀ j (h : j < kids.length) (h2 : j < vs.length), CdV P w vs[j] kids[j]) (hz : ∀ t ∈ ts, t.2.length ≤ maxLen) (hw : I64 k) :
      CdV P w ⟨.int .i64 k, tv, .int .i64 c, .int .i64 n, dv⟩ (.mk k ts c n kids)
section
variable {P Q : Nat → Prop} {w w' : World} {v : V5} {o : Cd}
theorem CdV.keep (h : CdV P w v o) (hs : w.heap.size ≤ w'.heap.size) (hk : ∀ b, P b → b < w.heap.size → w'.heap[b]? = w.heap[b]?) : CdV P w' v o := by
  induction h with
  | mk k ts c n kids tv dv vs h1 h2 hl hkid hz hw ih => exact .mk k ts c n kids tv dv vs (h1.keep hs hk) (h2.keep hs hk) hl ih hz hw
theorem CdV.mono (h : CdV P w v o) (hk : ∀ b, b < w.heap.size → P b → Q b) : CdV Q w v o := by
  induction h with
  | mk k ts c n kids tv dv vs h1 h2 hl hkid hz hw ih => exact .mk k ts c n kids tv dv vs (h1.mono hk) (h2.mono hk) hl ih hz hw
theorem CdV.later (h : CdV P w v o) (hb : Below w.heap.size w w') : CdV P w' v o := h.keep hb.size fun b _ hl => hb.block b hl
theorem CdV.drew (h : CdV P w v o) : CdV P w.drew v o := h.keep (Nat.le_refl _) fun _ _ _ => rfl
theorem CdV.drewN (h : CdV P w v o) (n : Nat) : CdV P (w.drewN n) v o := h.keep (Nat.le_refl _) fun _ _ _ => rfl
theorem CdV.alloc (h : CdV P w v o) (ob : Obj) : CdV P (w.alloc ob) v o := h.keep (by simp) fun b _ hl => Below.heap_alloc w ob b hl
/-- The five values opened. -/
theorem CdV.open_ (h : CdV P w v o) : ∃ (tv dv : Value) (vs : List V5), v = ⟨.int .i64 o.kind, tv, .int .i64 o.cmp, .int .i64 o.than, dv⟩ ∧ SlM w P tv o.terms.length (tcells o.terms) ∧ SlM w P dv o.kids.length (v5cs vs) ∧ vs.length = o.kids.length ∧
    (∀ j (h : j < o.kids.length) (h2 : j < vs.length), CdV P w vs[j] o.kids[j]) ∧ (∀ t ∈ o.terms, t.2.length ≤ maxLen) ∧ I64 o.kind := by
  cases h with
  | mk k ts c n kids tv dv vs h1 h2 hl hkid hz hw => exact ⟨tv, dv, vs, rfl, h1, h2, hl, hkid, hz, hw⟩
end
/-- The cells of an element. -/
theorem v5_at {P : Nat → Prop} {w : World} {A : Option Addr} {n c : Nat} {l : List V5} (h : SlM w P (.slice A n c) l.length (v5cs l)) (hn : 0 < l.length) : ∃ b off, A = some ⟨b, off, none⟩ ∧ P b ∧ b < w.heap.size ∧
    ∀ i (hi : i < l.length), w.cell? ⟨b, off + i * 5, none⟩ = some l[i].k ∧ w.cell? ⟨b, off + i * 5 + 1, none⟩ = some l[i].t ∧ w.cell? ⟨b, off + i * 5 + 2, none⟩ = some l[i].c ∧ w.cell? ⟨b, off + i * 5 + 3, none⟩ = some l[i].n ∧ w.cell? ⟨b, off + i * 5 + 4, none⟩ = some l[i].d := by
  obtain ⟨b, off, hA, hb, hl, hc⟩ := h.addr hn
  refine ⟨b, off, hA, hb, hl, fun i hi => ?_⟩
  have key : ∀ j u, j < 5 → l[i].cells[j]? = some u → w.cell? ⟨b, off + i * 5 + j, none⟩ = some u := fun j u hj hu => by
    have := hc (i * 5 + j) u (by rw [v5cs_get l i j hi hj]; exact hu)
    rwa [← Nat.add_assoc] at this
  exact ⟨key 0 _ (by omega) rfl, key 1 _ (by omega) rfl, key 2 _ (by omega) rfl, key 3 _ (by omega) rfl, key 4 _ (by omega) rfl⟩
/-- Rules: a name and the five cells of a condition each. -/
def rcell (x : Rl × V5) : List Value := .string ⟨x.1.1.toArray⟩ :: x.2.cells
theorem rlen (x : Rl × V5) : (rcell x).length = 6 := rfl
def rcells (l : List (Rl × V5)) : List Value := l.flatMap rcell
theorem rcells_snoc (l : List (Rl × V5)) (t : Rl × V5) : rcells (l ++ [t]) = rcells l ++ rcell t := by unfold rcells; rw [List.flatMap_append]; simp
/-- The slice v reads as the rules l. -/
def RlsV (P : Nat → Prop) (w : World) (v : Value) (l : List Rl) : Prop := ∃ us : List V5, us.length = l.length ∧ SlM w P v l.length (rcells (l.zip us)) ∧ (∀ j (h : j < l.length) (h2 : j < us.length), CdV P w us[j] l[j].2) ∧ ∀ r ∈ l, r.1.length ≤ maxLen
section
variable {P Q : Nat → Prop} {w w' : World} {v : Value} {l : List Rl}
theorem RlsV.keep (h : RlsV P w v l) (hs : w.heap.size ≤ w'.heap.size) (hk : ∀ b, P b → b < w.heap.size → w'.heap[b]? = w.heap[b]?) : RlsV P w' v l := by
  obtain ⟨us, h1, h2, h3, h4⟩ := h
  exact ⟨us, h1, h2.keep hs hk, fun j a b => (h3 j a b).keep hs hk, h4⟩
theorem RlsV.mono (h : RlsV P w v l) (hk : ∀ b, b < w.heap.size → P b → Q b) : RlsV Q w v l := by
  obtain ⟨us, h1, h2, h3, h4⟩ := h
  exact ⟨us, h1, h2.mono hk, fun j a b => (h3 j a b).mono hk, h4⟩
theorem RlsV.later (h : RlsV P w v l) (hb : Below w.heap.size w w') : RlsV P w' v l := h.keep hb.size fun b _ hl => hb.block b hl
theorem RlsV.names (h : RlsV P w v l) : ∀ r ∈ l, r.1.length ≤ maxLen := by obtain ⟨us, _, _, _, h4⟩ := h; exact h4
theorem RlsV.form (h : RlsV P w v l) : ∃ A cap, v = .slice A l.length cap := by obtain ⟨us, _, h2, _⟩ := h; exact h2.form
/-- The cells of a rule. -/
theorem RlsV.at_ {A : Option Addr} {n c : Nat} (h : RlsV P w (.slice A n c) l) (hn : 0 < l.length) : ∃ b off, A = some ⟨b, off, none⟩ ∧ P b ∧ b < w.heap.size ∧
    ∀ i (hi : i < l.length), ∃ u : V5, CdV P w u l[i].2 ∧ w.cell? ⟨b, off + i * 6, none⟩ = some (.string ⟨l[i].1.toArray⟩) ∧ w.cell? ⟨b, off + i * 6 + 1, none⟩ = some u.k ∧ w.cell? ⟨b, off + i * 6 + 2, none⟩ = some u.t ∧ w.cell? ⟨b, off + i * 6 + 3, none⟩ = some u.c ∧ w.cell? ⟨b, off + i * 6 + 4, none⟩ = some u.n ∧ w.cell? ⟨b, off + i * 6 + 5, none⟩ = some u.d := by
  obtain ⟨us, h1, h2, h3, -⟩ := h
  obtain ⟨b, off, hA, hb, hl, hc⟩ := h2.addr hn
  refine ⟨b, off, hA, hb, hl, fun i hi => ⟨us[i]'(by omega), h3 i hi (by omega), ?_⟩⟩
  have hz : i < (l.zip us).length := by rw [List.length_zip]; omega
  have he : (l.zip us).getD i ((l.zip us)[i]'hz) = (l[i], us[i]'(by omega)) := by
    rw [List.getD_eq_getElem?_getD, List.getElem?_eq_getElem hz]; simp
  have key : ∀ j u, j < 6 → (rcell (l[i], us[i]'(by omega)))[j]? = some u → w.cell? ⟨b, off + i * 6 + j, none⟩ = some u := fun j u hj hu => by
    have := hc (i * 6 + j) u ((flat_at rlen _ (l.zip us) i j hz hj).trans (by rw [he]; exact hu))
    rwa [← Nat.add_assoc] at this
  exact ⟨key 0 _ (by omega) rfl, key 1 _ (by omega) rfl, key 2 _ (by omega) rfl, key 3 _ (by omega) rfl, key 4 _ (by omega) rfl, key 5 _ (by omega) rfl⟩
end
/-- Facts. -/
def fcell (x : Ft) : List Value := [.string ⟨x.1.toArray⟩, .int .i64 x.2]
def fcells (l : List Ft) : List Value := l.flatMap fcell
theorem flen (x : Ft) : (fcell x).length = 2 := rfl
def ft0 : Ft := ([], 0)
/-- The slice v reads as the facts l. -/
def FtsM (P : Nat → Prop) (w : World) (v : Value) (l : List Ft) : Prop := SlM w P v l.length (fcells l) ∧ ∀ x ∈ l, x.1.length ≤ maxLen
theorem FtsM.at_ {P : Nat → Prop} {w : World} {A : Option Addr} {n c : Nat} {l : List Ft} (h : FtsM P w (.slice A n c) l) (hn : 0 < l.length) : ∃ b off, A = some ⟨b, off, none⟩ ∧ P b ∧ b < w.heap.size ∧
    ∀ i, i < l.length → w.cell? ⟨b, off + i * 2, none⟩ = some (.string ⟨(l.getD i ft0).1.toArray⟩) ∧ w.cell? ⟨b, off + i * 2 + 1, none⟩ = some (.int .i64 (l.getD i ft0).2) := by
  obtain ⟨b, off, hA, hb, hl, hc⟩ := SlM.addr h.1 hn
  refine ⟨b, off, hA, hb, hl, fun i hi => ?_⟩
  have key : ∀ j u, j < 2 → (fcell (l.getD i ft0))[j]? = some u → w.cell? ⟨b, off + i * 2 + j, none⟩ = some u := fun j u hj hu => by
    have := hc (i * 2 + j) u ((flat_at flen ft0 l i j hi hj).trans hu)
    rwa [← Nat.add_assoc] at this
  exact ⟨key 0 _ (by omega) rfl, key 1 _ (by omega) rfl⟩
end Go.Proofs.YtonmpealebggoaaGreatDoor
