/- The walks of Check and of Parse at what Print writes. -/
import Derived.Test.YtcbnelklilamgaaDoorVryLine
namespace Go.Proofs.YtcbnelklilamgaaDoor
open Go.RowKit Vr
theorem own_other {w w' : World} {base n size : Nat} {e : TypeId} {v u : Value} {xs : List Value} (h : w.ownsRow base e size v n xs) (hg : w.grownBy w' u.ownBlock) (hne : ∀ g, v.ownBlock = some g → u.ownBlock ≠ some g) : w'.ownsRow base e size v n xs := by
  refine ⟨h.1, ?_⟩
  rcases h.2 with h2 | ⟨g, cap, cur, rfl, h3, h4, h5⟩
  · exact .inl h2
  · refine .inr ⟨g, cap, cur, rfl, h3, ?_, h5⟩
    have hl : g < w.heap.size := by
      rcases Nat.lt_or_ge g w.heap.size with h6 | h6
      · exact h6
      · rw [Array.getElem?_eq_none h6] at h4; cases h4
    rw [hg.block g hl (fun e => hne g rfl e.symm)]
    exact h4
theorem own_set {w : World} {base n size b i : Nat} {e : TypeId} {v u : Value} {xs : List Value} (h : w.ownsRow base e size v n xs) (hne : v.ownBlock ≠ some b) : (w.setCell ⟨b, i, none⟩ u).ownsRow base e size v n xs := by
  refine ⟨h.1, ?_⟩
  rcases h.2 with h2 | ⟨g, cap, cur, rfl, h3, h4, h5⟩
  · exact .inl h2
  · refine .inr ⟨g, cap, cur, rfl, h3, ?_, h5⟩
    rw [Below.heap_setCell w ⟨b, i, none⟩ u g (fun e => hne (by rw [e]; rfl))]
    exact h4
theorem own_types {w : World} {b1 b2 n m s1 s2 : Nat} {e1 e2 : TypeId} {v u : Value} {xs ys : List Value} (h : w.ownsRow b1 e1 s1 v n xs) (k : w.ownsRow b2 e2 s2 u m ys) (hne : e1 ≠ e2) : ∀ g, v.ownBlock = some g → u.ownBlock ≠ some g := by
  intro g hv hu
  rcases h.2 with ⟨rfl, _⟩ | ⟨g1, cap, cur, rfl, _, hh, _⟩
  · simp [Value.ownBlock] at hv
  rcases k.2 with ⟨rfl, _⟩ | ⟨g2, cap2, cur2, rfl, _, hh2, _⟩
  · simp [Value.ownBlock] at hu
  obtain rfl : g1 = g := by simpa [Value.ownBlock] using hv
  obtain rfl : g2 = g1 := by simpa [Value.ownBlock] using hu
  have := hh.symm.trans hh2
  simp at this
  exact hne this.2
/-- Rows that a call reads: a slice of its own of slices of its own. -/
def RwO (B : Nat) (w : World) (v : Value) (rows : List (List Src)) : Prop :=
  ∃ vs : List Value, w.ownsRow B 22 1 v rows.length vs ∧ ∀ i, i < rows.length → ∃ (A : Option Addr) (c : Nat), vs[i]? = some (.slice A (rows.getD i []).length c) ∧ w.ownsRow B 9 1 (.slice A (rows.getD i []).length c) (rows.getD i []).length (scells (rows.getD i []))
theorem RwO.nil (B : Nat) (w : World) : RwO B w (.slice none 0 0) [] := ⟨[], ⟨rfl, .inl ⟨rfl, rfl⟩⟩, fun i h => absurd h (by simp)⟩
theorem RwO.later {B : Nat} {w w' : World} {v : Value} {rows : List (List Src)} (h : RwO B w v rows) (hb : Below w.heap.size w w') : RwO B w' v rows := by
  obtain ⟨vs, h1, h2⟩ := h
  refine ⟨vs, own_below h1 hb, fun i hi => ?_⟩
  obtain ⟨A, c, h3, h4⟩ := h2 i hi
  exact ⟨A, c, h3, own_below h4 hb⟩
theorem RwO.set {B b i : Nat} {t : TypeId} {cs : Array Value} {w : World} {v u : Value} {rows : List (List Src)} (h : RwO B w v rows) (hb : Blk w b t cs) (h1 : t ≠ 9) (h2 : t ≠ 22) : RwO B (w.setCell ⟨b, i, none⟩ u) v rows := by
  obtain ⟨vs, h3, h4⟩ := h
  refine ⟨vs, own_set h3 (own_not hb h2 h3), fun j hj => ?_⟩
  obtain ⟨A, c, h5, h6⟩ := h4 j hj
  exact ⟨A, c, h5, own_set h6 (own_not hb h1 h6)⟩
/-- One more row. -/
theorem RwO.push {B k : Nat} {w w' : World} {v v' : Value} {A : Option Addr} {c : Nat} {rows : List (List Src)} {r : List Src} {vs : List Value} (h : RwO B w v rows) (hr : w.ownsRow B 9 1 (.slice A r.length c) r.length (scells r))
    (hk : k = rows.length) (hvs : w.ownsRow B 22 1 v k vs) (ho : w'.ownsRow B 22 1 v' (k + 1) (vs ++ [.slice A r.length c])) (hg : w.grownBy w' v.ownBlock) : RwO B w' v' (rows ++ [r]) := by
  obtain ⟨us, h1, h2⟩ := h
  subst hk
  have hul : us.length = rows.length := by have := h1.1; omega
  have hvl : vs.length = rows.length := by have := hvs.1; omega
  have huv : us = vs := by
    rcases h1.2 with ⟨e1, e2⟩ | ⟨g, cap, cur, e1, _, hh, _, _, _, hx⟩
    · have h0 : rows.length = 0 := e2
      rw [List.eq_nil_of_length_eq_zero (by omega : us.length = 0), List.eq_nil_of_length_eq_zero (by omega : vs.length = 0)]
    · rcases hvs.2 with ⟨f1, _⟩ | ⟨g2, cap2, cur2, f1, _, hh2, _, _, _, hx2⟩
      · rw [e1] at f1; cases f1
      · rw [e1] at f1
        injection f1 with f1 _ _
        injection f1 with f1
        injection f1 with f1
        subst f1
        have := hh.symm.trans hh2
        injection this with this
        injection this with this
        subst this
        rw [← hx, ← hx2]
  subst huv
  refine ⟨us ++ [.slice A r.length c], by rw [List.length_append, List.length_singleton]; exact ho, fun i hi => ?_⟩
  rw [List.length_append, List.length_singleton] at hi
  rcases Nat.lt_or_ge i rows.length with hl | hl
  · obtain ⟨A2, c2, h3, h4⟩ := h2 i hl
    have e : (rows ++ [r]).getD i [] = rows.getD i [] := by rw [List.getD_eq_getElem?_getD, List.getElem?_append_left hl, ← List.getD_eq_getElem?_getD]
    rw [e]
    exact ⟨A2, c2, by rw [List.getElem?_append_left (by omega)]; exact h3, own_other h4 hg (own_types h4 hvs (by decide))⟩
  · obtain rfl : i = rows.length := by omega
    have e : (rows ++ [r]).getD rows.length [] = r := by rw [List.getD_eq_getElem?_getD, List.getElem?_append_right (Nat.le_refl _), Nat.sub_self]; rfl
    rw [e]
    exact ⟨A, c, by rw [List.getElem?_append_right (by omega), hul, Nat.sub_self]; rfl, own_other hr hg (own_types hr hvs (by decide))⟩
theorem RwO.rw {B : Nat} {w : World} {v : Value} {rows : List (List Src)} (h : RwO B w v rows) : RwM (fun _ => True) w v rows := by
  obtain ⟨vs, h1, h2⟩ := h
  have hl : vs.length = rows.length := by have := h1.1; omega
  refine ⟨vs, hl, (SlM.of_own h1).mono fun _ _ _ => trivial, fun i a b => ?_⟩
  obtain ⟨A, c, h3, h4⟩ := h2 i b
  have e : rows.getD i [] = rows[i] := by rw [List.getD_eq_getElem?_getD, List.getElem?_eq_getElem b]; rfl
  rw [e] at h3 h4
  have e2 : vs[i] = .slice A rows[i].length c := by rw [List.getElem?_eq_getElem a] at h3; exact Option.some.inj h3
  rw [e2]
  exact (SlM.of_own h4).mono fun _ _ _ => trivial
theorem check_any (f : List Src) (rows : List (List Src)) (fv rv : Value) (P Q : Nat → Prop) (w : World) (hf : StM P w fv f) (hr : RwM Q w rv rows) (hfs : ∀ s ∈ f, s.length < 4294967281) (hrs : ∀ r ∈ rows, ∀ s ∈ r, s.length < 4294967281) (hM : Mx w) :
    Calls Tryd.prog 8 #[.agg #[fv, rv]] w fun e w' => e = .returned (.int .i64 (printP f rows).1) ∧ Below w.heap.size w w' := by
  have hb1 := (Below.refl w.heap.size w).alloc (Nat.le_refl _) (.cells #[fv, rv] 25)
  have hk1 := Blk.new w 25 #[fv, rv]
  have HP := Lib.hid (print_any f rows fv rv P Q _ (hf.later hb1) (hr.later hb1) hfs hrs (hM.later hb1))
  have HB := Lib.hid hb1
  have x0 : (w.alloc (.cells #[fv, rv] 25)).cell? ⟨w.heap.size, 0, none⟩ = some fv := by simp
  have x1 : (w.alloc (.cells #[fv, rv] 25)).cell? ⟨w.heap.size, 1, none⟩ = some rv := by simp
  have xl := hk1.lt
  clear hf hr hfs hrs hM hb1 hk1
  generalize printP f rows = PP at *
  go_enter Tryd.func8, Tryd.ntmps8
  go_wp2_with fail
  refine HP.out.mono ?_
  rintro e w2 ⟨rfl, hb2⟩
  have HB2 := Lib.hid (HB.out.trans (hb2.mono HB.out.size))
  clear hb2
  go_wp2_with fail
  go_ret
  exact ⟨rfl, HB2.out⟩
end Go.Proofs.YtcbnelklilamgaaDoor
