/- The plain law of breaking a paragraph, continued: what the best division is made of, and its bounds. No program is in sight here. -/
import Derived.Test.YtajmdgkchleipaaPlain
namespace Go.Proofs.Ytajmdgkchleipaa.Para
theorem scan_some (s : Shape) (u : List Part) (r : List (Option (Int × Nat))) : ∀ m c k, scan s u r m = some (c, k) →
    1 ≤ k ∧ k ≤ m ∧ permitted s u k = true ∧ ∃ b, r.getD (k - 1) none = some b ∧ c = costOf s u k + b.1 := by
  intro m
  induction m with
  | zero => intro c k h; simp [scan] at h
  | succ m ih =>
    intro c k h
    simp only [scan, pick] at h
    split at h
    · rename_i b hp hb
      have new : some (costOf s u (m + 1) + b.1, m + 1) = some (c, k) → 1 ≤ k ∧ k ≤ m + 1 ∧ permitted s u k = true ∧ ∃ b, r.getD (k - 1) none = some b ∧ c = costOf s u k + b.1 := by
        intro e; injection e with e; injection e with e1 e2; subst e1; subst e2
        exact ⟨by omega, by omega, hp, b, by simpa using hb, rfl⟩
      split at h
      · exact new h
      · rename_i a ha
        split at h
        · exact new h
        · obtain ⟨x1, x2, x3, x4⟩ := ih c k (by rw [ha]; exact h)
          exact ⟨x1, by omega, x3, x4⟩
    · obtain ⟨x1, x2, x3, x4⟩ := ih c k h
      exact ⟨x1, by omega, x3, x4⟩
theorem best_nil (s : Shape) : best s [] = some (0, 0) := rfl
theorem best_some {s : Shape} {l : List Part} {i : Nat} {c : Int} {k : Nat} (hi : i < l.length) (h : best s (l.drop i) = some (c, k)) :
    1 ≤ k ∧ i + k ≤ l.length ∧ permitted s (l.drop i) k = true ∧ ∃ b, best s (l.drop (i + k)) = some b ∧ c = costOf s (l.drop i) k + b.1 := by
  rw [best_cons s l i hi] at h
  obtain ⟨h1, h2, h3, b, h4, h5⟩ := scan_some _ _ _ _ _ _ h
  refine ⟨h1, by omega, h3, b, ?_, h5⟩
  rw [← best_at s l (i + k) (by omega), ← h4]
  simp only [List.getD_eq_getElem?_getD, List.getElem?_drop]
  congr 2; omega
def M : Int := 1600000001048576
theorem off_sq (a : Int) : 0 ≤ a * a := by
  rcases Int.le_total 0 a with h | h
  · exact Int.mul_nonneg h h
  · exact Int.mul_nonneg_of_nonpos_of_nonpos h h
theorem cost_bd {s : Shape} {u : List Part} (hs : ShapeOk s) (hu : AllOk u) (m : Nat) (hm : m ≤ 256) : 0 ≤ costOf s u m ∧ costOf s u m ≤ M := by
  obtain ⟨W0, W1, L0, LS, SM, M1, H0, H1, C0, C1⟩ := hs
  obtain ⟨b0, b1, b2, b3⟩ := fixTo_bd hu m
  have hx0 : -600000 ≤ fixW s u m := by unfold fixW; split <;> omega
  have hx1 : fixW s u m ≤ 18000000 := by unfold fixW; split <;> omega
  have hy0 : 0 ≤ fixG u m := b2
  have hy1 : fixG u m ≤ 256 := by have : fixG u m = (fixTo u m).2 := rfl; omega
  have g2 : 0 ≤ fixG u m * s.S := Int.mul_nonneg hy0 (by omega)
  have g3 : fixG u m * s.S ≤ 256 * 65535 := Int.mul_le_mul hy1 (by omega) (by omega) (by omega)
  have o0 : -40000000 ≤ off s u m := by unfold off; omega
  have o1 : off s u m ≤ 40000000 := by unfold off; omega
  have q0 := off_sq (off s u m)
  have q1 : off s u m * off s u m ≤ 40000000 * 40000000 := by
    rcases Int.le_total 0 (off s u m) with h | h
    · exact Int.mul_le_mul o1 o1 h (by omega)
    · have : off s u m * off s u m = (-off s u m) * (-off s u m) := by rw [Int.neg_mul_neg]
      rw [this]; exact Int.mul_le_mul (by omega) (by omega) (by omega) (by omega)
  unfold costOf M
  generalize off s u m * off s u m = z at *
  split <;> split <;> omega
theorem best_bd {s : Shape} {l : List Part} (hs : ShapeOk s) (hl : AllOk l) (hn : l.length ≤ 256) : ∀ j i, l.length - i = j → i ≤ l.length → ∀ c k, best s (l.drop i) = some (c, k) → 0 ≤ c ∧ c ≤ M * ((l.length - i : Nat) : Int) := by
  intro j
  induction j using Nat.strongRecOn with
  | ind j ih =>
    intro i hj hi c k h
    rcases Nat.lt_or_ge i l.length with hlt | hge
    · obtain ⟨h1, h2, _, b, h4, h5⟩ := best_some hlt h
      obtain ⟨d1, d2⟩ := cost_bd hs (hl.drop i) k (by omega)
      have := ih (l.length - (i + k)) (by omega) (i + k) rfl h2 b.1 b.2 h4
      have e : M * ((l.length - i : Nat) : Int) = M * ((l.length - (i + k) : Nat) : Int) + M * (k : Int) := by
        rw [← Int.mul_add]; congr 1; omega
      have e2 : M ≤ M * (k : Int) := by unfold M; omega
      omega
    · have : i = l.length := by omega
      subst this
      rw [List.drop_length, best_nil] at h
      injection h with h; injection h with h1 h2
      subst h1; simp
def enc : Option (Int × Nat) → Int
  | none => -1
  | some b => b.1
/-- Where the lines begin and end. -/
def cuts (s : Shape) (l : List Part) : Nat → Nat → List (Nat × Nat)
  | 0, _ => []
  | f + 1, i => if i < l.length then
      match best s (l.drop i) with
      | some b => (i, i + b.2) :: cuts s l f (i + b.2)
      | none => []
    else []
end Go.Proofs.Ytajmdgkchleipaa.Para
