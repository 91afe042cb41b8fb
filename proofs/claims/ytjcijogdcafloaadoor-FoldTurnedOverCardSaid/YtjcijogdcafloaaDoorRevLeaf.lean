/- slices.Reverse at leaves, of a row of the caller's own. -/
import Derived.Test.YtjcijogdcafloaaDoorFoldMem
import Derived.Deep.DeepMust
namespace Go.Proofs.YtjcijogdcafloaaDoor
open Go.RowKit
/-- After i exchanges. -/
def rvAt (l : List Leaf) (i m : Nat) : Leaf := if m < i ∨ l.length - 1 - i < m then lf l (l.length - 1 - m) else lf l m
theorem rvAt_zero (l : List Leaf) {m : Nat} (h : m < l.length) : rvAt l 0 m = lf l m := by unfold rvAt; rw [if_neg (by omega)]
theorem rvAt_end (l : List Leaf) {i m : Nat} (h : m < l.length) (hi : l.length ≤ 2 * i + 1) : rvAt l i m = lf l.reverse m := by
  have e : lf l.reverse m = lf l (l.length - 1 - m) := by
    rw [lf_eq _ (by simpa using h), lf_eq _ (by omega), List.getElem_reverse]
  rw [e]; unfold rvAt
  split
  · rfl
  · rename_i hn
    congr 1; omega
theorem rvAt_step (l : List Leaf) {i m : Nat} (h : 2 * i + 1 < l.length) : rvAt l (i + 1) m = if m = i then rvAt l i (l.length - 1 - i) else if m = l.length - 1 - i then rvAt l i i else rvAt l i m := by
  by_cases h1 : m = i
  · subst h1
    rw [if_pos rfl]; unfold rvAt; rw [if_pos (by omega), if_neg (by omega)]
  · rw [if_neg h1]
    by_cases h2 : m = l.length - 1 - i
    · subst h2
      rw [if_pos rfl]; unfold rvAt; rw [if_pos (by omega), if_neg (by omega)]; congr 1; omega
    · rw [if_neg h2]; unfold rvAt
      by_cases h3 : m < i ∨ l.length - 1 - i < m
      · rw [if_pos h3, if_pos (by omega)]
      · rw [if_neg h3, if_neg (by omega)]
structure LRow (w : World) (g n : Nat) (f : Nat → Leaf) : Prop where
  lt : g < w.heap.size
  c0 : ∀ m, m < n → w.cell? ⟨g, m * 4, none⟩ = some (.int .i64 ((f m).c : Int))
  c1 : ∀ m, m < n → w.cell? ⟨g, m * 4 + 1, none⟩ = some (.int .i64 ((f m).r : Int))
  c2 : ∀ m, m < n → w.cell? ⟨g, m * 4 + 2, none⟩ = some (.bool (f m).fx)
  c3 : ∀ m, m < n → w.cell? ⟨g, m * 4 + 3, none⟩ = some (.bool (f m).fy)
  fr : ∀ m, m < n → w.frozen? ⟨g, m * 4, none⟩ = false ∧ w.frozen? ⟨g, m * 4 + 1, none⟩ = false ∧ w.frozen? ⟨g, m * 4 + 2, none⟩ = false ∧ w.frozen? ⟨g, m * 4 + 3, none⟩ = false
theorem LRow.drew {w : World} {g n : Nat} {f : Nat → Leaf} (h : LRow w g n f) : LRow w.drew g n f := ⟨h.lt, h.c0, h.c1, h.c2, h.c3, h.fr⟩
theorem LRow.congr {w : World} {g n : Nat} {f f' : Nat → Leaf} (h : LRow w g n f) (e : ∀ m, m < n → f' m = f m) : LRow w g n f' :=
  ⟨h.lt, fun m hm => by rw [e m hm]; exact h.c0 m hm, fun m hm => by rw [e m hm]; exact h.c1 m hm, fun m hm => by rw [e m hm]; exact h.c2 m hm, fun m hm => by rw [e m hm]; exact h.c3 m hm, h.fr⟩
/-- One leaf stored. -/
def put4 (w : World) (g k : Nat) (x : Leaf) : World := (((w.setCell ⟨g, k * 4, none⟩ (.int .i64 (x.c : Int))).setCell ⟨g, k * 4 + 1, none⟩ (.int .i64 (x.r : Int))).setCell ⟨g, k * 4 + 2, none⟩ (.bool x.fx)).setCell ⟨g, k * 4 + 3, none⟩ (.bool x.fy)
theorem LRow.put {w : World} {g n : Nat} {f : Nat → Leaf} (h : LRow w g n f) {k : Nat} (hk : k < n) (x : Leaf) : LRow (put4 w g k x) g n (fun m => if m = k then x else f m) := by
  have oth : ∀ (W : World) (a b : Nat) (u : Value), a ≠ b → (W.setCell ⟨g, a, none⟩ u).cell? ⟨g, b, none⟩ = W.cell? ⟨g, b, none⟩ := fun W a b u hne => World.cell?_setCell_other W _ _ u (by simp)
  have same : ∀ (W : World) (a : Nat) (u v : Value), W.cell? ⟨g, a, none⟩ = some v → (W.setCell ⟨g, a, none⟩ u).cell? ⟨g, a, none⟩ = some u := fun W a u v hv => World.cell?_setCell_same _ _ _ hv
  refine ⟨by simpa [put4, World.setCell] using h.lt, fun m hm => ?_, fun m hm => ?_, fun m hm => ?_, fun m hm => ?_, fun m hm => by simp only [put4, World.frozen?_setCell]; exact h.fr m hm⟩
  all_goals
    unfold put4
    by_cases e : m = k
    · subst e
      simp only [if_true]
      first
        | (rw [oth _ _ _ _ (by omega), oth _ _ _ _ (by omega), oth _ _ _ _ (by omega)]; exact same _ _ _ _ (h.c0 m hm))
        | (rw [oth _ _ _ _ (by omega), oth _ _ _ _ (by omega)]; exact same _ _ _ _ ((oth _ _ _ _ (by omega)).trans (h.c1 m hm)))
        | (rw [oth _ _ _ _ (by omega)]; exact same _ _ _ _ ((oth _ _ _ _ (by omega)).trans ((oth _ _ _ _ (by omega)).trans (h.c2 m hm))))
        | exact same _ _ _ _ ((oth _ _ _ _ (by omega)).trans ((oth _ _ _ _ (by omega)).trans ((oth _ _ _ _ (by omega)).trans (h.c3 m hm))))
    · simp only [if_neg e]
      rw [oth _ _ _ _ (by omega), oth _ _ _ _ (by omega), oth _ _ _ _ (by omega), oth _ _ _ _ (by omega)]
      first
        | exact h.c0 m hm
        | exact h.c1 m hm
        | exact h.c2 m hm
        | exact h.c3 m hm
theorem LRow.of_own {w : World} {base g n cap : Nat} {l : List Leaf} (h : w.ownsRow base 42 4 (.slice (some ⟨g, 0, none⟩) n cap) n (lcells l)) (hl : l.length = n) : LRow w g n (lf l) := by
  have hlt : g < w.heap.size := (World.ownsRow.lt h g rfl).2
  have hc := World.ownsRow.cells h (g := g) rfl
  have key : ∀ m j u, m < n → j < 4 → (lcell (lf l m))[j]? = some u → w.cell? ⟨g, m * 4 + j, none⟩ = some u := fun m j u hm hj hu => by
    have := hc (m * 4 + j) u ((lcells_at l m j (by omega) hj).trans hu)
    rwa [add_plain, Nat.zero_add] at this
  have hfr : ∀ o, o < n * 4 → w.frozen? ⟨g, o, none⟩ = false := fun o ho => by
    rcases h.2 with ⟨e, _⟩ | ⟨g', cap', cur, e, _, hh, h1, h2, h3, h4⟩
    · cases e
    · injection e with e _ _
      injection e with e
      injection e with e
      subst e
      simp only [World.frozen?, hh]; simp
  exact ⟨hlt, fun m hm => key m 0 _ hm (by omega) rfl, fun m hm => key m 1 _ hm (by omega) rfl, fun m hm => key m 2 _ hm (by omega) rfl, fun m hm => key m 3 _ hm (by omega) rfl, fun m hm => ⟨hfr _ (by omega), hfr _ (by omega), hfr _ (by omega), hfr _ (by omega)⟩⟩
theorem LRow.lv {w : World} {g n cap : Nat} {l : List Leaf} (h : LRow w g n (lf l)) (hl : l.length = n) (hc : n ≤ cap) (hm : cap ≤ maxLen) : Lv w (fun b => b = g) (.slice (some ⟨g, 0, none⟩) n cap) l := by
  subst hl
  refine ⟨_, cap, rfl, hc, hm, fun _ => ⟨g, 0, rfl, rfl, h.lt, fun k u hu => ?_⟩⟩
  have hk : k < l.length * 4 := by have := (List.getElem?_eq_some_iff.1 hu).1; rwa [lcells_length] at this
  have hi : k / 4 < l.length := by omega
  have hkk : k = k / 4 * 4 + k % 4 := by omega
  have hj : k % 4 < 4 := Nat.mod_lt _ (by omega)
  rw [hkk, lcells_at _ _ _ hi hj] at hu
  have q0 := h.c0 _ hi
  have q1 := h.c1 _ hi
  have q2 := h.c2 _ hi
  have q3 := h.c3 _ hi
  rw [Nat.zero_add, hkk]
  generalize k / 4 = i at *
  generalize k % 4 = j at *
  match j, hj, hu with
  | 0, _, hu => have := Option.some.inj hu; subst this; exact q0
  | 1, _, hu => have := Option.some.inj hu; subst this; exact q1
  | 2, _, hu => have := Option.some.inj hu; subst this; exact q2
  | 3, _, hu => have := Option.some.inj hu; subst this; exact q3
set_option maxRecDepth 100000 in
set_option maxHeartbeats 4000000 in
theorem rev_leaf (g n cap B : Nat) (l : List Leaf) (w : World) (hl : l.length = n) (hB : B ≤ g) (hn : n ≤ 100000) (h : LRow w g n (lf l)) :
    Calls Tryd.prog 16 #[.slice (some ⟨g, 0, none⟩) n cap] w fun e w' => e = .returned (.tuple #[]) ∧ LRow w' g n (lf l.reverse) ∧ Below B w w' := by
  have HL := Lib.hid h
  have HN := Lib.hid hl
  clear h hl
  go_enter Tryd.func16, Tryd.ntmps16
  go_wp2
  go_loopw [2, 3] (fun va vb wr => ∃ i : Nat, 2 * i ≤ n ∧ va = .int .i64 i ∧ vb = .int .i64 ((n : Int) - 1 - i) ∧ LRow wr g n (rvAt l i) ∧ Below B w wr) (fun a _ _ => n - (intOf a).toNat)
  case atStart => exact ⟨0, by omega, rfl, valInt (by omega), HL.out.congr (fun m hm => rvAt_zero l (by rw [HN.out]; exact hm)), Below.refl _ _⟩
  case round =>
    obtain ⟨i, hi, rfl, rfl, hr, hb⟩ := hrel
    by_cases hlt : (i : Int) < (n : Int) - 1 - i
    · obtain ⟨m, hm⟩ : ∃ m : Nat, (m : Int) = (n : Int) - 1 - i := ⟨n - 1 - i, by omega⟩
      have hmn : m < n := by omega
      have hin : i < n := by omega
      have hne : i ≠ m := by omega
      have Hmi : Hid (m = n - 1 - i) := (by omega : m = n - 1 - i)
      have a0 := hr.c0 i hin
      have a1 := hr.c1 i hin
      have a2 := hr.c2 i hin
      have a3 := hr.c3 i hin
      have b0 := hr.c0 m hmn
      have b1 := hr.c1 m hmn
      have b2 := hr.c2 m hmn
      have b3 := hr.c3 m hmn
      obtain ⟨f0, f1, f2, f3⟩ := hr.fr i hin
      obtain ⟨e0, e1, e2, e3⟩ := hr.fr m hmn
      have hgl := hr.lt
      have HSt : Hid (∀ m', rvAt l (i + 1) m' = if m' = i then rvAt l i m else if m' = m then rvAt l i i else rvAt l i m') := fun m' => by
        have := rvAt_step l (i := i) (m := m') (by rw [HN.out]; omega)
        rw [HN.out, ← Hmi.out] at this; exact this
      have HR := Lib.hid hr
      have HB := Lib.hid hb
      clear hr hb
      rw [← hm]
      rw [← hm] at hlt
      have Hm := Lib.hid hm
      clear hm
      generalize rvAt l i i = x at *
      generalize rvAt l i m = z at *
      go_wp2
      go_region
      go_wp2
      go_roundw
      case rel =>
        refine ⟨i + 1, by have := Hm.out; omega, by go_num, valInt (by have := Hm.out; omega), ?_, ?_⟩
        · have h1 := (HR.out.put hin z).put hmn x
          have h2 : LRow (put4 (put4 wr g i z) g m x).drew g n (rvAt l (i + 1)) := by
            refine LRow.congr (f := fun m' => if m' = m then x else if m' = i then z else rvAt l i m') h1.drew fun m' _ => ?_
            rw [HSt.out]
            by_cases e1 : m' = i
            · subst e1; rw [if_pos rfl, if_neg hne, if_pos rfl]
            · rw [if_neg e1, if_neg e1]
          simp only [put4] at h2
          exact h2
        · have hb2 : ∀ (W : World) k y, Below B w W → Below B w (put4 W g k y) := fun W k y h => (((h.setCell (p := ⟨g, k * 4, none⟩) hB _).setCell (p := ⟨g, k * 4 + 1, none⟩) hB _).setCell (p := ⟨g, k * 4 + 2, none⟩) hB _).setCell (p := ⟨g, k * 4 + 3, none⟩) hB _
          have h3 := (hb2 _ m x (hb2 _ i z HB.out)).drew
          simp only [put4] at h3
          exact h3
      case measure => simp [intOf]; omega
    · have hr2 := hr.congr (f' := lf l.reverse) fun m hm => (rvAt_end l (by rw [HN.out]; exact hm) (by rw [HN.out]; omega)).symm
      have HR := Lib.hid hr2
      have HB := Lib.hid hb
      clear hr hr2 hb
      go_wp2
      go_end0
      exact ⟨rfl, HR.out, HB.out⟩
set_option maxRecDepth 100000 in
theorem rev_nil (A : Option Addr) (cap : Nat) (w : World) :
    Calls Tryd.prog 16 #[.slice A 0 cap] w fun e w' => e = .returned (.tuple #[]) ∧ w = w' := by
  go_enter Tryd.func16, Tryd.ntmps16
  go_wp2
  go_loop [2, 3] (fun va vb => va = .int .i64 0 ∧ vb = .int .i64 (-1)) (fun _ _ => 0)
  case atStart => exact ⟨rfl, rfl⟩
  case round =>
    obtain ⟨rfl, rfl⟩ := hrel
    go_wp2
    go_end0
    exact ⟨rfl, rfl⟩
/-- Of a row of the caller's own. -/
theorem rev_own (v : Value) (base n : Nat) (l : List Leaf) (w : World) (h : w.ownsRow base 42 4 v n (lcells l)) (hl : l.length = n) (hn : n ≤ 100000) :
    Calls Tryd.prog 16 #[v] w fun e w' => e = .returned (.tuple #[]) ∧ Lv w' (fun _ => True) v l.reverse ∧ Below base w w' := by
  have h2 := h.2
  rcases h2 with ⟨rfl, e⟩ | ⟨g, cap, cur, rfl, hg, hh, hnc, hcm, hsz', hx⟩
  · subst e
    have hl1 : l = [] := List.eq_nil_of_length_eq_zero hl
    subst hl1
    refine (rev_nil none 0 w).mono ?_
    rintro e w' ⟨rfl, rfl⟩
    exact ⟨rfl, SlM.nil _ _, Below.refl _ _⟩
  · refine (rev_leaf g n cap base l w hl hg hn (LRow.of_own h hl)).mono ?_
    rintro e w' ⟨rfl, hr, hb⟩
    have := LRow.lv hr (by simpa using hl) hnc hcm
    exact ⟨rfl, SlM.mono this fun _ _ _ => trivial, hb⟩
end Go.Proofs.YtjcijogdcafloaaDoor
