/- The order of names. No program is in sight here. -/
import Derived.Test.YtpfkmjckjomeeaaDoorArcStore
namespace Go.Proofs.YtpfkmjckjomeeaaDoor
namespace Arc
theorem bl_irrefl (a : List UInt8) : Op.bytesLess a a = false := by
  induction a with
  | nil => rfl
  | cons a r ih => simp [Op.bytesLess, ih]
theorem bl_asymm (a b : List UInt8) (h : Op.bytesLess a b = true) : Op.bytesLess b a = false := by
  induction a generalizing b with
  | nil => cases b <;> simp [Op.bytesLess]
  | cons x r ih =>
    cases b with
    | nil => simp [Op.bytesLess] at h
    | cons y s =>
      simp only [Op.bytesLess, Bool.or_eq_true, Bool.and_eq_true, decide_eq_true_eq, beq_iff_eq] at h
      simp only [Op.bytesLess, Bool.or_eq_false_iff, Bool.and_eq_false_iff, decide_eq_false_iff_not]
      rcases h with h | ⟨rfl, h⟩
      · have h' := UInt8.lt_iff_toNat_lt.1 h
        refine ⟨fun h2 => ?_, .inl (by simp; intro e; rw [e] at h'; omega)⟩
        have := UInt8.lt_iff_toNat_lt.1 h2; omega
      · exact ⟨fun h2 => by have := UInt8.lt_iff_toNat_lt.1 h2; omega, .inr (ih s h)⟩
theorem bl_trans (a b c : List UInt8) (h : Op.bytesLess a b = true) (h2 : Op.bytesLess b c = true) : Op.bytesLess a c = true := by
  induction a generalizing b c with
  | nil =>
    cases c with
    | nil => cases b <;> simp [Op.bytesLess] at h2
    | cons z t => rfl
  | cons x r ih =>
    cases b with
    | nil => simp [Op.bytesLess] at h
    | cons y s =>
      cases c with
      | nil => simp [Op.bytesLess] at h2
      | cons z t =>
        simp only [Op.bytesLess, Bool.or_eq_true, Bool.and_eq_true, decide_eq_true_eq, beq_iff_eq] at h h2 ⊢
        rcases h with h | ⟨rfl, h⟩
        · rcases h2 with h2 | ⟨rfl, h2⟩
          · left; have := UInt8.lt_iff_toNat_lt.1 h; have := UInt8.lt_iff_toNat_lt.1 h2; exact UInt8.lt_iff_toNat_lt.2 (by omega)
          · exact .inl h
        · rcases h2 with h2 | ⟨rfl, h2⟩
          · exact .inl h2
          · exact .inr ⟨rfl, ih s t h h2⟩
theorem less_asymm {a b : ByteArray} (h : less a b = true) : less b a = false := bl_asymm _ _ h
theorem less_trans {a b c : ByteArray} (h : less a b = true) (h2 : less b c = true) : less a c = true := bl_trans _ _ _ h h2
theorem less_ne {a b : ByteArray} (h : less a b = true) : a ≠ b := fun e => by
  rw [e] at h; unfold less at h; rw [bl_irrefl] at h; cases h
/-- Names in increasing order. -/
def Srt (l : List ByteArray) : Prop := l.Pairwise fun a b => less a b = true
theorem Srt.nil : Srt [] := List.Pairwise.nil
theorem Srt.nodup {l : List ByteArray} (h : Srt l) : l.Nodup := h.imp fun h => less_ne h
theorem Srt.snoc {l : List ByteArray} (h : Srt l) {x : ByteArray} (hx : ∀ y ∈ l, less y x = true) : Srt (l ++ [x]) :=
  List.pairwise_append.2 ⟨h, List.pairwise_singleton _ _, fun a ha b hb => by rw [List.mem_singleton.1 hb]; exact hx a ha⟩
theorem Srt.sub {l m : List ByteArray} (h : Srt l) (hm : m.Sublist l) : Srt m := List.Pairwise.sublist hm h
/-- Where a name stands, or would stand. -/
def pos (l : List ByteArray) (x : ByteArray) : Nat := (l.takeWhile (less · x)).length
theorem pos_le (l : List ByteArray) (x : ByteArray) : pos l x ≤ l.length := by
  unfold pos
  induction l with
  | nil => exact Nat.le_refl _
  | cons a r ih =>
    rw [List.takeWhile_cons]; split
    · simp; omega
    · simp
theorem pos_lt {l : List ByteArray} {x : ByteArray} {j : Nat} (hj : j < pos l x) : less (l.getD j ByteArray.empty) x = true := by
  induction l generalizing j with
  | nil => simp [pos] at hj
  | cons a r ih =>
    unfold pos at hj; rw [List.takeWhile_cons] at hj
    split at hj
    · rename_i h
      cases j with
      | zero => exact h
      | succ j => exact ih (by unfold pos; simpa using hj)
    · simp at hj
theorem pos_ge {l : List ByteArray} (hS : Srt l) {x : ByteArray} {j : Nat} (hj : pos l x ≤ j) (hl : j < l.length) : less (l.getD j ByteArray.empty) x = false := by
  induction l generalizing j with
  | nil => simp at hl
  | cons a r ih =>
    obtain ⟨h1, h2⟩ := List.pairwise_cons.1 hS
    unfold pos at hj; rw [List.takeWhile_cons] at hj
    split at hj
    · cases j with
      | zero => simp at hj
      | succ j => exact ih h2 (by unfold pos; simpa using hj) (by simpa using hl)
    · rename_i h
      cases j with
      | zero => simpa using h
      | succ j =>
        have hl' : j < r.length := by simpa using hl
        show less (r.getD j ByteArray.empty) x = false
        have hm : r.getD j ByteArray.empty ∈ r := by rw [List.getD_eq_getElem?_getD, List.getElem?_eq_getElem hl']; exact List.getElem_mem hl'
        cases hc : less (r.getD j ByteArray.empty) x with
        | false => rfl
        | true => exact absurd (less_trans (h1 _ hm) hc) h
theorem pos_mem {l : List ByteArray} (hS : Srt l) {x : ByteArray} (hx : x ∈ l) : pos l x < l.length ∧ l.getD (pos l x) ByteArray.empty = x := by
  induction l with
  | nil => simp at hx
  | cons a r ih =>
    obtain ⟨h1, h2⟩ := List.pairwise_cons.1 hS
    unfold pos; rw [List.takeWhile_cons]
    rcases List.mem_cons.1 hx with rfl | hx
    · have : less x x = false := bl_irrefl _
      rw [this]; simp
    · rw [h1 x hx]
      obtain ⟨a1, a2⟩ := ih h2 hx
      unfold pos at a1 a2
      exact ⟨by simpa using a1, by simpa using a2⟩
theorem pos_none {l : List ByteArray} {x : ByteArray} (hx : x ∉ l) : ¬ (pos l x < l.length ∧ l.getD (pos l x) ByteArray.empty = x) := fun ⟨h1, h2⟩ => hx (by
  rw [List.getD_eq_getElem?_getD, List.getElem?_eq_getElem h1] at h2
  simp only [Option.getD_some] at h2
  exact h2 ▸ List.getElem_mem h1)
theorem pos_all {l : List ByteArray} {x : ByteArray} (hx : ∀ y ∈ l, less y x = true) : pos l x = l.length := by
  unfold pos
  induction l with
  | nil => rfl
  | cons a r ih =>
    rw [List.takeWhile_cons, hx a (by simp)]
    simp only [if_true, List.length_cons]
    rw [ih fun y hy => hx y (by simp [hy])]
end Arc
end Go.Proofs.YtpfkmjckjomeeaaDoor
