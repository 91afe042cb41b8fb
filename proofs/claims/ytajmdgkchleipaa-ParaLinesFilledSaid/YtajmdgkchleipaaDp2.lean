/- What Break leaves in memory: its lines; and what one candidate does to the rows of the best division. -/
import Derived.Test.YtajmdgkchleipaaDp
namespace Go.Proofs.Ytajmdgkchleipaa
open Go.RowKit Para
def ln0 : Ln := ⟨0, 0, false, []⟩
def lnAt (L : List Ln) (i : Nat) : Ln := L.getD i ln0
def lrow : List Ln → List Value → List Value
  | x :: L, g :: gs => lcells x g ++ lrow L gs
  | _, _ => []
theorem lrow_snoc (L : List Ln) (gs : List Value) (x : Ln) (g : Value) (h : gs.length = L.length) : lrow (L ++ [x]) (gs ++ [g]) = lrow L gs ++ lcells x g := by
  induction L generalizing gs with
  | nil => cases gs with
    | nil => simp [lrow]
    | cons a t => simp at h
  | cons y L ih => cases gs with
    | nil => simp at h
    | cons a t => simp only [List.cons_append, lrow]; rw [ih t (by simpa using h), List.append_assoc]
theorem lrow_length (L : List Ln) (gs : List Value) (h : gs.length = L.length) : (lrow L gs).length = L.length * 4 := by
  induction L generalizing gs with
  | nil => simp [lrow]
  | cons y L ih => cases gs with
    | nil => simp at h
    | cons a t => simp only [lrow, List.length_append, List.length_cons]; rw [ih t (by simpa using h)]; simp [lcells]; omega
theorem lrow_at (L : List Ln) (gs : List Value) (h : gs.length = L.length) (i j : Nat) (hi : i < L.length) (hj : j < 4) : (lrow L gs)[i * 4 + j]? = (lcells (lnAt L i) (gs.getD i (.bool false)))[j]? := by
  induction L generalizing gs i with
  | nil => simp at hi
  | cons y L ih =>
    cases gs with
    | nil => simp at h
    | cons a t =>
      cases i with
      | zero =>
        simp only [lrow]
        rw [List.getElem?_append_left (by simp [lcells]; omega)]; simp [lnAt]
      | succ i =>
        simp only [lrow]
        rw [List.getElem?_append_right (by simp [lcells]; omega)]
        have := ih t (by simpa using h) i (by simpa using hi)
        simp only [lnAt, List.getD_cons_succ] at this ⊢
        rw [← this]; congr 1; simp [lcells]; omega
/-- The lines as they lie in memory, in blocks from B on. -/
def LinesIn (w : World) (B : Nat) (v : Value) (L : List Ln) : Prop :=
  ∃ gs : List Value, gs.length = L.length ∧ w.ownsRow B 35 4 v L.length (lrow L gs) ∧ ∀ i g, gs[i]? = some g → Sl w (fun b => some b ≠ v.ownBlock ∧ B ≤ b) g (ints (lnAt L i).gs)
theorem LinesIn.nil (w : World) (B : Nat) : LinesIn w B (.slice none 0 0) [] := ⟨[], rfl, ⟨rfl, .inl ⟨rfl, rfl⟩⟩, fun i g h => by simp at h⟩
theorem LinesIn.form {w : World} {B : Nat} {v : Value} {L : List Ln} (h : LinesIn w B v L) : ∃ A c, v = .slice A L.length c := by obtain ⟨gs, _, h2, _⟩ := h; exact own_form h2
theorem lines_push {wr w1 w2 : World} {B : Nat} {vo v' gv : Value} {L : List Ln} {x : Ln} {gs : List Value} {o : Obj} (hlen : gs.length = L.length) (ho : wr.ownsRow B 35 4 vo L.length (lrow L gs)) (hall : ∀ i g, gs[i]? = some g → Sl wr (fun b => some b ≠ vo.ownBlock ∧ B ≤ b) g (ints (lnAt L i).gs))
    (hB : B ≤ wr.heap.size) (hb : Below wr.heap.size wr w1) (hgv : w1.ownsRow wr.heap.size 3 1 gv x.gs.length (ints x.gs)) (hown : w2.ownsRow B 35 4 v' (L.length + 1) (lrow L gs ++ lcells x gv))
    (hg : (w1.alloc o).grownBy w2 vo.ownBlock) (hk : v'.ownBlock = vo.ownBlock ∨ v'.ownBlock = some (w1.alloc o).heap.size) : LinesIn w2 B v' (L ++ [x]) := by
  refine ⟨gs ++ [gv], by simp [hlen], by rw [lrow_snoc _ _ _ _ hlen, List.length_append]; exact hown, ?_⟩
  intro i g hi
  have key : Sl (w1.alloc o) (fun b => some b ≠ vo.ownBlock ∧ some b ≠ v'.ownBlock ∧ B ≤ b) g (ints (lnAt (L ++ [x]) i).gs) := by
    rcases Nat.lt_or_ge i gs.length with hlt | hge
    · rw [List.getElem?_append_left hlt] at hi
      have e : lnAt (L ++ [x]) i = lnAt L i := by unfold lnAt; rw [List.getD_eq_getElem?_getD, List.getElem?_append_left (by omega), List.getD_eq_getElem?_getD]
      rw [e]
      have h1 := (hall i g hi).later hb
      have h2 := (h1.mono (ok' := fun b => (some b ≠ vo.ownBlock ∧ B ≤ b) ∧ b < w1.heap.size) fun b hb' h => ⟨h, hb'⟩).alloc o
      refine h2.mono fun b _ ⟨h, hlt⟩ => ⟨h.1, ?_, h.2⟩
      rcases hk with e | e
      · rw [e]; exact h.1
      · rw [e]; simp; omega
    · rw [List.getElem?_append_right hge] at hi
      have hi' : i = L.length := by
        have := (List.getElem?_eq_some_iff.1 hi).1
        simp at this; omega
      subst hi'
      rw [show L.length - gs.length = 0 by omega] at hi
      simp at hi
      subst hi
      have e : lnAt (L ++ [x]) L.length = x := by unfold lnAt; simp
      rw [e]
      have h2 := ((Sl.of_own hgv).mono (ok' := fun b => wr.heap.size ≤ b ∧ b < w1.heap.size) fun b hb' h => ⟨h.2, hb'⟩).alloc o
      have hne : ∀ b, wr.heap.size ≤ b → some b ≠ vo.ownBlock := fun b hb' e => by have := own_lt ho b e.symm; omega
      refine h2.mono fun b _ ⟨h, hlt⟩ => ⟨hne b h, ?_, by omega⟩
      rcases hk with e | e
      · rw [e]; exact hne b h
      · rw [e]; simp; omega
  exact (key.grown hg fun b h => h.1).mono fun b _ h => h.2
theorem LinesIn.base {w : World} {B B' : Nat} {v : Value} {L : List Ln} (h : LinesIn w B v L) (hB : B' ≤ B) : LinesIn w B' v L := by
  obtain ⟨gs, h1, h2, h3⟩ := h
  exact ⟨gs, h1, own_base h2 hB, fun i g hg => (h3 i g hg).mono fun b _ hb => ⟨hb.1, by omega⟩⟩
theorem LinesIn.later {w w' : World} {B : Nat} {v : Value} {L : List Ln} (h : LinesIn w B v L) (hb : Below w.heap.size w w') : LinesIn w' B v L := by
  obtain ⟨gs, h1, h2, h3⟩ := h
  exact ⟨gs, h1, own_below h2 hb, fun i g hg => (h3 i g hg).later hb⟩
/-- Line number i, read. -/
theorem LinesIn.at_ {w : World} {B : Nat} {v : Value} {L : List Ln} (h : LinesIn w B v L) (hn : 0 < L.length) : ∃ g c, v = .slice (some ⟨g, 0, none⟩) L.length c ∧ g < w.heap.size ∧ ∀ i, i < L.length → ∃ A cA,
    w.cell? ⟨g, i * 4, none⟩ = some (.int .i64 ((lnAt L i).f : Int)) ∧ w.cell? ⟨g, i * 4 + 1, none⟩ = some (.int .i64 ((lnAt L i).t : Int)) ∧ w.cell? ⟨g, i * 4 + 2, none⟩ = some (.bool (lnAt L i).hy) ∧ w.cell? ⟨g, i * 4 + 3, none⟩ = some (.slice A (lnAt L i).gs.length cA) ∧
    Sl w (fun _ => True) (.slice A (lnAt L i).gs.length cA) (ints (lnAt L i).gs) := by
  obtain ⟨gs, h1, h2, h3⟩ := h
  obtain ⟨g, cap, rfl, _, hlt⟩ := h2.form hn
  refine ⟨g, cap, rfl, hlt, fun i hi => ?_⟩
  have hc : ∀ j, j < 4 → w.cell? ⟨g, i * 4 + j, none⟩ = (lcells (lnAt L i) (gs.getD i (.bool false)))[j]? := by
    intro j hj
    rw [← lrow_at L gs h1 i j hi hj]
    exact h2.cellAt (i * 4 + j) (by omega)
  have hgi : gs[i]? = some (gs.getD i (.bool false)) := by rw [List.getD_eq_getElem?_getD, List.getElem?_eq_getElem (by omega)]; rfl
  have hs := (h3 i _ hgi).mono (ok' := fun _ => True) fun _ _ _ => trivial
  obtain ⟨A, cA, hv⟩ := hs.form
  rw [ints_length] at hv
  rw [hv] at hc hs
  exact ⟨A, cA, hc 0 (by omega), hc 1 (by omega), hc 2 (by omega), hc 3 (by omega), hs⟩
theorem permitted_fit {s : Shape} {u : List Part} {m : Nat} (hs : ShapeOk s) (hu : AllOk u) (h : permitted s u m = true) : fixW s u m ≤ s.W := by
  have h2 := (fixTo_bd hu m).2.2.1
  have h3 : 0 ≤ fixG u m * s.Lo := Int.mul_nonneg h2 hs.L0
  simp only [permitted, Bool.and_eq_true, Bool.not_eq_true', decide_eq_false_iff_not] at h
  have := h.1
  omega
theorem cuts_len (s : Shape) (l : List Part) : ∀ f i, (cuts s l f i).length ≤ f := by
  intro f
  induction f with
  | zero => intro i; simp [cuts]
  | succ f ih =>
    intro i
    simp only [cuts]
    split
    · split
      · simp only [List.length_cons]; have := ih (i + ‹Int × Nat›.2); omega
      · simp
    · simp
theorem cuts_step {s : Shape} {l : List Part} {f i : Nat} {c : Int} {k : Nat} (hi : i < l.length) (hb : best s (l.drop i) = some (c, k)) : cuts s l (f + 1) i = (i, i + k) :: cuts s l f (i + k) := by
  rw [cuts, if_pos hi, hb]
theorem cuts_end (s : Shape) (l : List Part) (f i : Nat) (hi : l.length ≤ i) : cuts s l f i = [] := by
  cases f with
  | zero => rfl
  | succ f => rw [cuts, if_neg (by omega)]
theorem scan_no (s : Shape) (u : List Part) (r : List (Option (Int × Nat))) (m : Nat) (h : permitted s u (m + 1) = false) : scan s u r (m + 1) = scan s u r m := by simp [scan, pick, h]
theorem scan_none (s : Shape) (u : List Part) (r : List (Option (Int × Nat))) (m : Nat) (h : r.getD m none = none) : scan s u r (m + 1) = scan s u r m := by
  simp only [scan]; rw [h]; cases permitted s u (m + 1) <;> rfl
theorem scan_first (s : Shape) (u : List Part) (r : List (Option (Int × Nat))) (m : Nat) (b : Int × Nat) (hp : permitted s u (m + 1) = true) (h : r.getD m none = some b) (h0 : scan s u r m = none) : scan s u r (m + 1) = some (costOf s u (m + 1) + b.1, m + 1) := by
  simp only [scan]; rw [h, hp, h0]; rfl
theorem scan_take (s : Shape) (u : List Part) (r : List (Option (Int × Nat))) (m : Nat) (b a : Int × Nat) (hp : permitted s u (m + 1) = true) (h : r.getD m none = some b) (h0 : scan s u r m = some a) (hle : costOf s u (m + 1) + b.1 ≤ a.1) : scan s u r (m + 1) = some (costOf s u (m + 1) + b.1, m + 1) := by
  simp only [scan]; rw [h, hp, h0]; simp [pick, hle]
theorem scan_keep (s : Shape) (u : List Part) (r : List (Option (Int × Nat))) (m : Nat) (b a : Int × Nat) (hp : permitted s u (m + 1) = true) (h : r.getD m none = some b) (h0 : scan s u r m = some a) (hle : ¬ costOf s u (m + 1) + b.1 ≤ a.1) : scan s u r (m + 1) = scan s u r m := by
  simp only [scan]; rw [h, hp, h0]; simp [pick, hle]
end Go.Proofs.Ytajmdgkchleipaa
