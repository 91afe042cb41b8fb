/- What is known of glyphs, as it lies in memory; a glyph without error in plain words. -/
import Derived.Test.YtefkglmdkjkbiaaDoorFntMem
import Derived.Test.YtefkglmdkjkbiaaDoorBuilderR
namespace Go.Proofs.YtefkglmdkjkbiaaDoor
open Go.RowKit Fnt
def nsc (n : Nst) : List Value := [.int .i64 (n.st.val : Int), .int .i64 n.dp, .int .i64 n.pt]
/-- The rows of glyphs lie in block b. -/
def NstM (w : World) (b : Nat) (L : List Nst) : Prop := Row w b (L.flatMap nsc)
theorem nsc_length (n : Nst) : (nsc n).length = 3 := rfl
theorem flat_set {α : Type} {f : α → List Value} (hf : ∀ a, (f a).length = 3) (L : List α) (g : Nat) (n : α) (a b c : Value) (h : f n = [a, b, c]) (hg : g < L.length) :
    (L.set g n).flatMap f = (((L.flatMap f).set (g * 3) a).set (g * 3 + 1) b).set (g * 3 + 2) c := by
  apply List.ext_getElem?
  intro i
  obtain ⟨q, r, hr, rfl⟩ : ∃ q r, r < 3 ∧ i = q * 3 + r := ⟨i / 3, i % 3, by omega, by omega⟩
  have hlen : (L.flatMap f).length = L.length * 3 := flat_length hf L
  by_cases hq : q < L.length
  · rw [flat_at hf n _ _ _ (by simpa using hq) hr]
    rw [List.getD_eq_getElem?_getD, List.getElem?_set]
    by_cases hqg : g = q
    · subst hqg
      rw [if_pos rfl, if_pos hg]
      simp only [Option.getD_some, h]
      rcases (show r = 0 ∨ r = 1 ∨ r = 2 by omega) with rfl | rfl | rfl
      · rw [List.getElem?_set_ne (by omega), List.getElem?_set_ne (by omega), Nat.add_zero, List.getElem?_set_self (by rw [hlen]; omega)]; rfl
      · rw [List.getElem?_set_ne (by omega), List.getElem?_set_self (by rw [List.length_set, hlen]; omega)]; rfl
      · rw [List.getElem?_set_self (by rw [List.length_set, List.length_set, hlen]; omega)]; rfl
    · rw [if_neg hqg, List.getElem?_set_ne (by omega), List.getElem?_set_ne (by omega), List.getElem?_set_ne (by omega), flat_at hf n _ _ _ hq hr, List.getD_eq_getElem?_getD]
  · rw [List.getElem?_eq_none (by rw [flat_length hf, List.length_set]; omega), List.getElem?_eq_none (by simp only [List.length_set]; rw [hlen]; omega)]
theorem NstM.cells {w : World} {b : Nat} {L : List Nst} (h : NstM w b L) {g : Nat} (hg : g < L.length) :
    w.cell? ⟨b, g * 3, none⟩ = some (.int .i64 ((nst L g).st.val : Int)) ∧ w.cell? ⟨b, g * 3 + 1, none⟩ = some (.int .i64 (nst L g).dp) ∧ w.cell? ⟨b, g * 3 + 2, none⟩ = some (.int .i64 (nst L g).pt) := by
  have k := fun j hj => flat_at nsc_length (⟨0, 0, 0⟩ : Nst) L g j hg hj
  exact ⟨h.cell _ _ ((k 0 (by omega)).trans rfl), h.cell _ _ ((k 1 (by omega)).trans rfl), h.cell _ _ ((k 2 (by omega)).trans rfl)⟩
theorem NstM.free {w : World} {b : Nat} {L : List Nst} (h : NstM w b L) {g j : Nat} (hg : g < L.length) (hj : j < 3) : w.frozen? ⟨b, g * 3 + j, none⟩ = false :=
  Row.free h _ (by rw [flat_length nsc_length]; omega)
theorem nst_get {L : List Nst} {g : Nat} (hg : g < L.length) : L[g] = nst L g := by
  unfold nst; rw [List.getD_eq_getElem?_getD, List.getElem?_eq_getElem hg]; rfl
/-- A glyph is begun. -/
theorem NstM.begin_ {w : World} {b : Nat} {L : List Nst} (h : NstM w b L) {g : Nat} (hg : g < L.length) : NstM (w.setCell ⟨b, g * 3, none⟩ (.int .i64 1)) b (L.set g ⟨1, (nst L g).dp, (nst L g).pt⟩) := by
  have hl : (L.flatMap nsc).length = L.length * 3 := flat_length nsc_length L
  have h1 := Row.put h (k := g * 3) (by rw [hl]; omega) (.int .i64 1)
  unfold NstM
  rw [flat_set nsc_length L g ⟨1, (nst L g).dp, (nst L g).pt⟩ (.int .i64 1) (.int .i64 (nst L g).dp) (.int .i64 (nst L g).pt) rfl hg]
  have e1 : (L.flatMap nsc)[g * 3 + 1]? = some (.int .i64 (nst L g).dp) := (flat_at nsc_length (⟨0, 0, 0⟩ : Nst) L g 1 hg (by omega)).trans rfl
  have e2 : (L.flatMap nsc)[g * 3 + 2]? = some (.int .i64 (nst L g).pt) := (flat_at nsc_length (⟨0, 0, 0⟩ : Nst) L g 2 hg (by omega)).trans rfl
  have s1 : ((L.flatMap nsc).set (g * 3) (.int .i64 1)).set (g * 3 + 1) (.int .i64 (nst L g).dp) = (L.flatMap nsc).set (g * 3) (.int .i64 1) := by
    apply List.ext_getElem?; intro i
    rw [List.getElem?_set]
    split
    · rename_i e; subst e; rw [if_pos (by rw [List.length_set, hl]; omega), List.getElem?_set_ne (by omega), e1]
    · rfl
  have s2 : ((L.flatMap nsc).set (g * 3) (.int .i64 1)).set (g * 3 + 2) (.int .i64 (nst L g).pt) = (L.flatMap nsc).set (g * 3) (.int .i64 1) := by
    apply List.ext_getElem?; intro i
    rw [List.getElem?_set]
    split
    · rename_i e; subst e; rw [if_pos (by rw [List.length_set, hl]; omega), List.getElem?_set_ne (by omega), e2]
    · rfl
  rw [s1, s2]
  exact h1
/-- A glyph is known. -/
theorem NstM.end_ {w : World} {b : Nat} {L : List Nst} (h : NstM w b L) {g : Nat} (hg : g < L.length) (n : Nst) :
    NstM (((w.setCell ⟨b, g * 3, none⟩ (.int .i64 (n.st.val : Int))).setCell ⟨b, g * 3 + 1, none⟩ (.int .i64 n.dp)).setCell ⟨b, g * 3 + 2, none⟩ (.int .i64 n.pt)) b (L.set g n) := by
  have hl : (L.flatMap nsc).length = L.length * 3 := flat_length nsc_length L
  unfold NstM
  rw [flat_set nsc_length L g n _ _ _ rfl hg]
  exact ((Row.put h (k := g * 3) (by rw [hl]; omega) _).put (k := g * 3 + 1) (by rw [List.length_set, hl]; omega) _).put (k := g * 3 + 2) (by rw [List.length_set, List.length_set, hl]; omega) _
theorem NstM.keep {w w' : World} {b : Nat} {L : List Nst} (h : NstM w b L) (hs : w.heap.size ≤ w'.heap.size) (hb : w'.heap[b]? = w.heap[b]?) : NstM w' b L := Row.keep h (Nat.lt_of_lt_of_le h.lt hs) hb
theorem NstM.alloc {w : World} {b : Nat} {L : List Nst} (h : NstM w b L) (o : Obj) : NstM (w.alloc o) b L := Row.alloc h o
theorem NstM.drew {w : World} {b : Nat} {L : List Nst} (h : NstM w b L) : NstM w.drew b L := Row.drew h
theorem NstM.far {w : World} {b : Nat} {L : List Nst} (h : NstM w b L) {p : Addr} (hp : b ≠ p.block) (u : Value) : NstM (w.setCell p u) b L := Row.far h hp u
theorem FrX.mono {R R' b : Nat} {w w' : World} (h : FrX R b w w') (hR : R' ≤ R) : FrX R' b w w' := ⟨h.os, h.tape, h.output, h.size, fun k hk => h.block k (by omega)⟩
theorem FrX.alloc {R b : Nat} {w w' : World} (h : FrX R b w w') (hR : R ≤ w.heap.size) (o : Obj) : FrX R b w (w'.alloc o) := h.trans (FrX.of_below ((Below.refl w'.heap.size w').alloc (Nat.le_refl _) o) (by have := h.size; omega))
theorem FrX.drew {R b : Nat} {w w' : World} (h : FrX R b w w') : FrX R b w w'.drew := ⟨h.os, h.tape, h.output, h.size, h.block⟩
theorem FrX.drewN {R b : Nat} {w w' : World} (h : FrX R b w w') (n : Nat) : FrX R b w (w'.drewN n) := ⟨h.os, h.tape, h.output, h.size, h.block⟩
theorem FrX.put {R b : Nat} {w w' : World} (h : FrX R b w w') (i : Nat) (u : Value) : FrX R b w (w'.setCell ⟨b, i, none⟩ u) := h.trans (FrX.set _ _ _ _ _)
theorem FrX.above {R b : Nat} {w w' : World} (h : FrX R b w w') {p : Addr} (hp : R ≤ p.block) (u : Value) : FrX R b w (w'.setCell p u) := h.trans (FrX.of_below ((Below.refl R w').setCell hp u) (Nat.le_refl _))
theorem FrX.fnt {R b : Nat} {w w' : World} {ok : Nat → Prop} {v : Value} {F : Font} (h : FrX R b w w') (hf : FntV w ok v F) (hR : w.heap.size ≤ R) (hb : ¬ ok b) : FntV w' ok v F :=
  hf.keep h.size fun k ho hk => h.block k (by omega) fun e => hb (e ▸ ho)
theorem FrX.cell {R b : Nat} {w w' : World} (h : FrX R b w w') {k : Nat} (hk : k < R) (hb : k ≠ b) (o : Nat) : w'.cell? ⟨k, o, none⟩ = w.cell? ⟨k, o, none⟩ :=
  World.cell?_of_block (w := w) (a := ⟨k, o, none⟩) (h.block k hk hb)
theorem Blk.frx {R b : Nat} {w w' : World} {g : Nat} {t : TypeId} {cs : Array Value} (h : Blk w g t cs) (hf : FrX R b w w') (hg : g < R) (hb : g ≠ b) : Blk w' g t cs := (hf.block g hg hb).trans h
namespace Fnt
theorem contour_ok {l : List Pt} (h : contourE l = 0) : 3 ≤ l.length ∧ l.length ≤ 32 ∧ (pt l 0).on = true ∧ scan (ptE l) l.length = 0 := by
  unfold contourE at h
  split at h
  · omega
  · rename_i h1
    split at h
    · omega
    · rename_i h2
      split at h
      · omega
      · exact ⟨by omega, by omega, by simpa using h2, h⟩
/-- What is known of a glyph without error. -/
structure GlOk (g : Gl) (many : Nat) : Prop where
  adv0 : 0 ≤ g.adv
  adv1 : g.adv ≤ 2047
  cs : g.cs.length ≤ 8
  ps : g.ps.length ≤ 4
  one : g.cs = [] ∨ g.ps = []
  con : ∀ c ∈ g.cs, contourE c = 0
  par : ∀ p ∈ g.ps, 0 ≤ p.g ∧ p.g < many ∧ far p.x = false ∧ far p.y = false
theorem glyph_ok {g : Gl} {many : Nat} (h : glyphE g many = 0) : GlOk g many := by
  unfold glyphE at h
  split at h
  · omega
  rename_i h1
  split at h
  · omega
  rename_i h2
  split at h
  · omega
  rename_i h3
  simp at h1 h2 h3
  have h4 : scan (conE g) g.cs.length = 0 := by
    split at h
    · assumption
    · exact h
  rw [if_pos h4] at h
  refine ⟨h1.1, h1.2, h3.1, h3.2, ?_, fun c hc => ?_, fun p hp => ?_⟩
  · rcases Nat.eq_zero_or_pos g.cs.length with e | e
    · exact .inl (List.eq_nil_of_length_eq_zero e)
    · right; have := h2 (by omega); first | exact this | (exact List.eq_nil_of_length_eq_zero (by omega))
  · obtain ⟨i, hi, rfl⟩ := List.mem_iff_getElem.1 hc
    have := scan_zero.1 h4 i hi
    unfold conE at this
    rwa [List.getD_eq_getElem?_getD, List.getElem?_eq_getElem hi] at this
  · obtain ⟨i, hi, rfl⟩ := List.mem_iff_getElem.1 hp
    have := scan_zero.1 h i hi
    unfold parE partE at this
    rw [List.getD_eq_getElem?_getD, List.getElem?_eq_getElem hi] at this
    simp only [Option.getD_some] at this
    split at this
    · omega
    · rename_i k1
      split at this
      · omega
      · rename_i k2
        simp at k1 k2
        exact ⟨k1.1, k1.2, k2.1, k2.2⟩
theorem own_le {g : Gl} {many : Nat} (h : GlOk g many) : own g ≤ 256 := by
  have : ∀ l : List (List Pt), (∀ c ∈ l, c.length ≤ 32) → (l.map List.length).sum ≤ l.length * 32 := by
    intro l
    induction l with
    | nil => simp
    | cons a l ih =>
      intro hl
      have h1 := hl a (by simp)
      have h2 := ih fun c hc => hl c (by simp [hc])
      simp only [List.map_cons, List.sum_cons, List.length_cons]; omega
  have h1 := this g.cs fun c hc => (contour_ok (h.con c hc)).2.1
  have := h.cs
  unfold own; omega
theorem take_next {α : Type} (l : List α) (i : Nat) (d : α) (h : i < l.length) : l.take (i + 1) = l.take i ++ [l.getD i d] := by
  rw [List.take_succ_eq_append_getElem h, List.getD_eq_getElem?_getD, List.getElem?_eq_getElem h]; rfl
theorem parts_next {V : Nat → List Nst → Int × List Nst} {ps : List Part} {i : Nat} {n0 n : Nst} {L1 Lk : List Nst} (h : parts V (ps.take i) n0 L1 = (0, n, Lk)) (hi : i < ps.length) {q : Nat} (hq : (ps.getD i default).g = (q : Int)) (h0 : (V q Lk).1 = 0) :
    parts V (ps.take (i + 1)) n0 L1 = (0, ⟨2, max n.dp ((nst (V q Lk).2 q).dp + 1), min (n.pt + (nst (V q Lk).2 q).pt) 1048576⟩, (V q Lk).2) := by
  rw [take_next ps i default hi, parts_append V _ _ _ _ (by rw [h]), h]
  simp only [parts, hq, Int.toNat_natCast]
  rw [if_pos h0]
theorem parts_stop {V : Nat → List Nst → Int × List Nst} {ps : List Part} {i : Nat} {n0 n : Nst} {L1 Lk : List Nst} (h : parts V (ps.take i) n0 L1 = (0, n, Lk)) (hi : i < ps.length) {q : Nat} (hq : (ps.getD i default).g = (q : Int)) (h0 : (V q Lk).1 ≠ 0) :
    parts V ps n0 L1 = ((V q Lk).1, n, (V q Lk).2) := by
  have e : parts V (ps.take (i + 1)) n0 L1 = ((V q Lk).1, n, (V q Lk).2) := by
    rw [take_next ps i default hi, parts_append V _ _ _ _ (by rw [h]), h]
    simp only [parts, hq, Int.toNat_natCast]
    rw [if_neg h0]
  rw [← List.take_append_drop (i + 1) ps, parts_bad V _ _ _ _ (by rw [e]; exact h0), e]
def ownTo (g : Gl) (i : Nat) : Nat := ((g.cs.take i).map List.length).sum
theorem ownTo_succ (g : Gl) (i : Nat) (h : i < g.cs.length) : ownTo g (i + 1) = ownTo g i + (g.cs.getD i []).length := by
  unfold ownTo; rw [take_next g.cs i [] h, List.map_append, List.sum_append]; simp
theorem ownTo_all (g : Gl) : ownTo g g.cs.length = own g := by unfold ownTo own; rw [List.take_length]
theorem ownTo_le (g : Gl) (i : Nat) : ownTo g i ≤ own g := by
  unfold ownTo own
  conv => rhs; rw [← List.take_append_drop i g.cs, List.map_append, List.sum_append]
  omega
theorem bd_begin {L : List Nst} {g : Nat} (h : Bd L) (h0 : (nst L g).st = 0) : Bd (L.set g ⟨1, (nst L g).dp, (nst L g).pt⟩) := by
  have hk1 : Keeps L (L.set g ⟨1, (nst L g).dp, (nst L g).pt⟩) := ⟨by rw [List.length_set], fun i hi => by
    rw [nst_set, if_neg (fun e : g = i ∧ _ => hi (e.1 ▸ h0))]⟩
  intro i
  have hd := hk1.done
  rw [nst_set]
  split
  · obtain ⟨a, b, c, d⟩ := h g
    exact ⟨a, by dsimp only; omega, c, d⟩
  · obtain ⟨a, b, c, d⟩ := h i
    exact ⟨a, by omega, c, d⟩
theorem own_all {F : Font} (hF : ∀ i, i < F.gs.length → GlOk (gl F i) F.gs.length) (g : Nat) : own (gl F g) ≤ 1048576 := by
  by_cases hg : g < F.gs.length
  · have := own_le (hF g hg); omega
  · have : gl F g = default := by unfold gl; rw [List.getD_eq_getElem?_getD, List.getElem?_eq_none (by omega)]; rfl
    rw [this]; show 0 ≤ 1048576; omega
/-- What is known behind some parts. -/
theorem parts_facts {F : Font} (hF : ∀ i, i < F.gs.length → GlOk (gl F i) F.gs.length) {k : Nat} {ps : List Part} {e : Int} {n0 n : Nst} {L1 Lk : List Nst} (h : parts (vis F k) ps n0 L1 = (e, n, Lk)) (hb : Bd L1) (hn : Nb n0 (done L1)) : Keeps L1 Lk ∧ Bd Lk ∧ Nb n (done Lk) := by
  have h1 := parts_keeps (vis_keeps F k) ps n0 L1
  have h2 := parts_bd (vis_keeps F k) (vis_bd (own_all hF) k) ps n0 L1 hb hn
  rw [h] at h1 h2
  exact ⟨h1, h2⟩
theorem max_if (a b : Int) : (if a < b then b else a) = max a b := by omega
theorem min_if (a b : Int) : (if b < a then b else a) = min a b := by omega
end Fnt
end Go.Proofs.YtefkglmdkjkbiaaDoor
