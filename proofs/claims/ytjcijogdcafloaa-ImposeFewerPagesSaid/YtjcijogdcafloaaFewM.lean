/- Two rows of plates that a loop fills: memory. -/
import Derived.Test.YtjcijogdcafloaaFewB
import Derived.Test.YtjcijogdcafloaaFewPlain
import Derived.Test.YtjcijogdcafloaaTiny
import Derived.Test.YtjcijogdcafloaaDisj
namespace Go.Proofs.Ytjcijogdcafloaa
open Go.RowKit
theorem ePlt : ElemK Try.prog 57 52 (.agg #[.int .i64 0, .int .i64 0, .slice none 0 0]) 3 40 := ElemK.mk_ Try.underlying57 (by kernel_rfl) rfl
theorem plateCells_snoc (W H : Int) (vals : List Value) (v : Value) : plateCells W H (vals ++ [v]) = plateCells W H vals ++ [.int .i64 W, .int .i64 H, v] := by simp [plateCells]
/-- Two rows of plates of the call's own, apart from each other. -/
structure TwoM (base : Nat) (W H : Int) (wr : World) (vF vA : Value) (lF lA : List Value) : Prop where
  oF : wr.ownsRow base 52 3 vF lF.length (plateCells W H lF)
  oA : wr.ownsRow base 52 3 vA lA.length (plateCells W H lA)
  sep : ∀ k, vF.ownBlock = some k → vA.ownBlock ≠ some k
/-- Neither of the rows lies in this block. -/
def Off (vF vA : Value) (b : Nat) : Prop := some b ≠ vF.ownBlock ∧ some b ≠ vA.ownBlock
section
variable {base : Nat} {W H : Int} {wr wa wq w1 : World} {vF vA v1 v : Value} {lF lA : List Value} {xs : List Value}
theorem TwoM.later (h : TwoM base W H wr vF vA lF lA) (hb : Below wr.heap.size wr wa) : TwoM base W H wa vF vA lF lA :=
  ⟨own_below h.oF hb, own_below h.oA hb, h.sep⟩
theorem TwoM.pushF (h : TwoM base W H wq vF vA lF lA) (ob : Obj) (ho : w1.ownsRow base 52 3 v1 (lF.length + 1) (plateCells W H lF ++ [.int .i64 W, .int .i64 H, v])) (hg : (wq.alloc ob).grownBy w1 vF.ownBlock) (hk : v1.ownBlock = vF.ownBlock ∨ v1.ownBlock = some (wq.alloc ob).heap.size) :
    TwoM base W H w1 v1 vA (lF ++ [v]) lA := by
  have hq := h.later ((Below.refl _ wq).alloc (Nat.le_refl _) ob)
  refine ⟨?_, hq.oA.kept hg ?_, ?_⟩
  · rw [List.length_append, plateCells_snoc]; exact ho
  · cases hvb : vA.ownBlock with
    | none => exact .inl rfl
    | some k => exact .inr fun e => h.sep k e.symm hvb
  · intro k hk1 hk2
    rcases hk with e | e
    · exact h.sep k (e ▸ hk1) hk2
    · rw [e] at hk1
      have := (own_lt hq.oA k hk2).2
      have := Option.some.inj hk1; omega
theorem TwoM.pushA (h : TwoM base W H wq vF vA lF lA) (ob : Obj) (ho : w1.ownsRow base 52 3 v1 (lA.length + 1) (plateCells W H lA ++ [.int .i64 W, .int .i64 H, v])) (hg : (wq.alloc ob).grownBy w1 vA.ownBlock) (hk : v1.ownBlock = vA.ownBlock ∨ v1.ownBlock = some (wq.alloc ob).heap.size) :
    TwoM base W H w1 vF v1 lF (lA ++ [v]) := by
  have hq := h.later ((Below.refl _ wq).alloc (Nat.le_refl _) ob)
  refine ⟨hq.oF.kept hg ?_, ?_, ?_⟩
  · cases hvb : vF.ownBlock with
    | none => exact .inl rfl
    | some k => exact .inr fun e => h.sep k hvb e.symm
  · rw [List.length_append, plateCells_snoc]; exact ho
  · intro k hk1 hk2
    rcases hk with e | e
    · exact h.sep k hk1 (e ▸ hk2)
    · rw [e] at hk2
      have := (own_lt hq.oF k hk1).2
      have := Option.some.inj hk2; omega
theorem px_pushF (h : Sl wq (Off vF vA) v xs) (ob : Obj) (hg : (wq.alloc ob).grownBy w1 vF.ownBlock) (hk : v1.ownBlock = vF.ownBlock ∨ v1.ownBlock = some (wq.alloc ob).heap.size) : Sl w1 (Off v1 vA) v xs := by
  have h2 : Sl (wq.alloc ob) (fun b => b < (wq.alloc ob).heap.size ∧ Off vF vA b) v xs := (h.alloc ob).mono fun b hl ho => ⟨hl, ho⟩
  refine (h2.grown hg fun b hb => hb.2.1).mono fun b _ hb => ⟨fun e => ?_, hb.2.2⟩
  rcases hk with e2 | e2
  · exact hb.2.1 (e.trans e2)
  · rw [e2] at e; have := Option.some.inj e; omega
theorem px_pushA (h : Sl wq (Off vF vA) v xs) (ob : Obj) (hg : (wq.alloc ob).grownBy w1 vA.ownBlock) (hk : v1.ownBlock = vA.ownBlock ∨ v1.ownBlock = some (wq.alloc ob).heap.size) : Sl w1 (Off vF v1) v xs := by
  have h2 : Sl (wq.alloc ob) (fun b => b < (wq.alloc ob).heap.size ∧ Off vF vA b) v xs := (h.alloc ob).mono fun b hl ho => ⟨hl, ho⟩
  refine (h2.grown hg fun b hb => hb.2.2).mono fun b _ hb => ⟨hb.2.1, fun e => ?_⟩
  rcases hk with e2 | e2
  · exact hb.2.2 (e.trans e2)
  · rw [e2] at e; have := Option.some.inj e; omega
end
/-- The two rows after i rounds: the first m plates are in both. -/
structure TwoR (base : Nat) (W H m : Nat) (wr : World) (vF vA : Value) (vals : List Value) (pages : List (List UInt8)) (i : Nat) : Prop where
  len : vals.length = i
  plen : pages.length = i
  me : TwoM base W H wr vF vA (vals.take m) vals
  px : ∀ j, j < i → Sl wr (Off vF vA) (vals.getD j undef) (byts (pcN pages j))
  sz : ∀ j, j < i → (pcN pages j).length = W * H
  zr : ∀ j, m ≤ j → j < i → pcN pages j = List.replicate (W * H) 0
theorem getD_snoc {α : Type} (l : List α) (x d : α) {j : Nat} (h : j < l.length + 1) : (l ++ [x]).getD j d = if j < l.length then l.getD j d else x := by
  split
  · rw [List.getD_eq_getElem?_getD, List.getElem?_append_left (by omega), ← List.getD_eq_getElem?_getD]
  · obtain rfl : j = l.length := by omega
    simp
theorem pcN_snoc (l : List (List UInt8)) (x : List UInt8) {j : Nat} (h : j < l.length + 1) : pcN (l ++ [x]) j = if j < l.length then pcN l j else x := getD_snoc l x _ h
section
variable {base W H m : Nat} {wr wq w1 w2 : World} {vF vA v1 v2 v : Value} {vals : List Value} {pages : List (List UInt8)} {i : Nat} {pg : List UInt8}
theorem TwoR.later (h : TwoR base W H m wr vF vA vals pages i) {wa : World} (hb : Below wr.heap.size wr wa) : TwoR base W H m wa vF vA vals pages i :=
  ⟨h.len, h.plen, h.me.later hb, fun j hj => (h.px j hj).later hb, h.sz, h.zr⟩
theorem TwoR.snd (h : TwoR base W H m wq vF vA vals pages i) (hi : m ≤ i) (hv : Sl wq (Off vF vA) v (byts (List.replicate (W * H) 0))) (ob : Obj) (ho : w1.ownsRow base 52 3 v1 (i + 1) (plateCells W H vals ++ [.int .i64 W, .int .i64 H, v])) (hg : (wq.alloc ob).grownBy w1 vA.ownBlock) (hk : v1.ownBlock = vA.ownBlock ∨ v1.ownBlock = some (wq.alloc ob).heap.size) :
    TwoR base W H m w1 vF v1 (vals ++ [v]) (pages ++ [List.replicate (W * H) 0]) (i + 1) := by
  have hm := h.me.pushA ob (by rw [h.len]; exact ho) hg hk
  refine ⟨by rw [List.length_append, h.len]; rfl, by rw [List.length_append, h.plen]; rfl, ?_, fun j hj => ?_, fun j hj => ?_, fun j hj1 hj2 => ?_⟩
  · rw [List.take_append_of_le_length (by rw [h.len]; exact hi)]; exact hm
  · rw [getD_snoc _ _ _ (by rw [h.len]; exact hj), pcN_snoc _ _ (by rw [h.plen]; exact hj), h.len, h.plen]
    split
    · exact px_pushA (h.px j (by omega)) ob hg hk
    · exact px_pushA hv ob hg hk
  · rw [pcN_snoc _ _ (by rw [h.plen]; exact hj), h.plen]
    split
    · exact h.sz j (by omega)
    · simp
  · rw [pcN_snoc _ _ (by rw [h.plen]; exact hj2), h.plen]
    split
    · exact h.zr j hj1 (by omega)
    · rfl
/-- One plate more in both rows. -/
theorem TwoR.fst (h : TwoR base W H m wq vF vA vals pages i) (hi : i < m) (hv : Sl wq (Off vF vA) v (byts pg)) (ob : Obj) (ho : w1.ownsRow base 52 3 v1 (i + 1) (plateCells W H vals ++ [.int .i64 W, .int .i64 H, v])) (hg : (wq.alloc ob).grownBy w1 vF.ownBlock) (hk : v1.ownBlock = vF.ownBlock ∨ v1.ownBlock = some (wq.alloc ob).heap.size) :
    TwoM base W H w1 v1 vA (vals ++ [v]) vals ∧ (∀ j, j < i → Sl w1 (Off v1 vA) (vals.getD j undef) (byts (pcN pages j))) ∧ Sl w1 (Off v1 vA) v (byts pg) := by
  have e : vals.take m = vals := List.take_of_length_le (by rw [h.len]; omega)
  have hm := h.me
  rw [e] at hm
  exact ⟨hm.pushF ob (by rw [h.len]; exact ho) hg hk, fun j hj => px_pushF (h.px j hj) ob hg hk, px_pushF hv ob hg hk⟩
theorem TwoR.both (h : TwoR base W H m wq vF vA vals pages i) (hi : i < m) (hpg : pg.length = W * H) (hm : TwoM base W H w1 v1 vA (vals ++ [v]) vals) (hx : ∀ j, j < i → Sl w1 (Off v1 vA) (vals.getD j undef) (byts (pcN pages j))) (hv : Sl w1 (Off v1 vA) v (byts pg)) (ob : Obj) (ho : w2.ownsRow base 52 3 v2 (i + 1) (plateCells W H vals ++ [.int .i64 W, .int .i64 H, v])) (hg : (w1.alloc ob).grownBy w2 vA.ownBlock) (hk : v2.ownBlock = vA.ownBlock ∨ v2.ownBlock = some (w1.alloc ob).heap.size) :
    TwoR base W H m w2 v1 v2 (vals ++ [v]) (pages ++ [pg]) (i + 1) := by
  have hm2 := hm.pushA ob (by rw [h.len]; exact ho) hg hk
  refine ⟨by rw [List.length_append, h.len]; rfl, by rw [List.length_append, h.plen]; rfl, ?_, fun j hj => ?_, fun j hj => ?_, fun j hj1 hj2 => by omega⟩
  · rw [List.take_of_length_le (by rw [List.length_append, h.len]; simp; omega)]; exact hm2
  · rw [getD_snoc _ _ _ (by rw [h.len]; exact hj), pcN_snoc _ _ (by rw [h.plen]; exact hj), h.len, h.plen]
    split
    · exact px_pushA (hx j (by omega)) ob hg hk
    · exact px_pushA hv ob hg hk
  · rw [pcN_snoc _ _ (by rw [h.plen]; exact hj), h.plen]
    split
    · exact h.sz j (by omega)
    · exact hpg
/-- What Plate reads, at the end. -/
theorem TwoR.pgA (h : TwoR base W H m wr vF vA vals pages i) : PgV wr (fun _ => True) vA W H vals pages := by
  refine ⟨?_, by rw [h.len, h.plen], fun j hj => (h.px j (by rw [← h.plen]; exact hj)).mono fun _ _ _ => trivial, fun j hj => by rw [h.sz j (by rw [← h.plen]; exact hj)]; simp⟩
  have := (SlM.of_own h.me.oA).mono (ok' := fun _ => True) fun _ _ _ => trivial
  rw [h.len, ← h.plen] at this; exact this
theorem TwoR.pgF (h : TwoR base W H m wr vF vA vals pages i) (hm : m ≤ i) : PgV wr (fun _ => True) vF W H (vals.take m) (pages.take m) := by
  have hl : (pages.take m).length = m := by rw [List.length_take, h.plen]; omega
  have hl2 : (vals.take m).length = m := by rw [List.length_take, h.len]; omega
  have hp : ∀ j, j < m → pcN (pages.take m) j = pcN pages j := fun j hj => by
    unfold pcN; rw [List.getD_eq_getElem?_getD, List.getElem?_take_of_lt hj, ← List.getD_eq_getElem?_getD]
  refine ⟨?_, by rw [hl, hl2], fun j hj => ?_, fun j hj => ?_⟩
  · have := (SlM.of_own h.me.oF).mono (ok' := fun _ => True) fun _ _ _ => trivial
    rw [hl2] at this; rw [hl]; exact this
  · rw [hl] at hj
    rw [hp j hj, List.getD_eq_getElem?_getD, List.getElem?_take_of_lt hj, ← List.getD_eq_getElem?_getD]
    exact (h.px j (by omega)).mono fun _ _ _ => trivial
  · rw [hl] at hj
    rw [hp j hj, h.sz j (by omega)]; simp
end
end Go.Proofs.Ytjcijogdcafloaa
