/- How long a condition's text is; two strings put together, as the walks ask it. -/
import Derived.Test.YtonmpealebggoaaDoorPrpLvl
import Derived.Lib.ItoaLen
namespace Go.Proofs.YtonmpealebggoaaDoor
open Go.RowKit Pr
theorem bs_app (a b : Src) : Bs a ++ Bs b = Bs (a ++ b) := by
  apply ByteArray.ext; simp [ByteArray.data_append]
theorem cat_run {P : Program} (a b : Src) (h : a.length + b.length ≤ 9223372036854775807) (w : World) : (Op.stringOp .add (Bs a) (Bs b)).run P w = .ok (.string (Bs (a ++ b))) w := by
  rw [← bs_app]; exact run_string_add_sum w (Bs a) (Bs b) (by simpa [ByteArray.size] using h)
theorem itoa_short (n : Int) (h : n.natAbs ≤ 9999999999) : (Lib.itoa n).length ≤ 21 := Lib.itoa_length_le n (by omega) (by omega)
theorem name_short {s : Src} (h : plainB s = true) : s.length ≤ 16 := by
  cases s with
  | nil => simp
  | cons c r => simp only [plainB, Bool.and_eq_true, decide_eq_true_eq] at h; exact h.1.2
theorem term_short (i : Nat) {t : Tm} (h : TmOk t) : (termS i t).length ≤ 41 := by
  have h1 := name_short h.nm
  have h2 := itoa_short t.1.natAbs (by have := h.lo; have := h.hi; omega)
  unfold termS
  have e1 : (if 0 < i then (if t.1 < 0 then [32, 45, 32] else [32, 43, 32]) else if t.1 < 0 then [45] else [] : Src).length ≤ 3 := by split <;> split <;> simp
  have e2 : (if t.1.natAbs ≠ 1 then Lib.itoa (t.1.natAbs : Int) ++ [32] else [] : Src).length ≤ 22 := by split <;> simp; omega
  simp only [List.length_append]
  omega
theorem terms_short : ∀ (l : List Tm) (i : Nat), (∀ t ∈ l, TmOk t) → (termsS i l).length ≤ 41 * l.length
  | [], _, _ => by simp [termsS]
  | t :: r, i, h => by
    have h1 := term_short i (h t (by simp))
    have h2 := terms_short r (i + 1) fun x hx => h x (by simp [hx])
    simp only [termsS, List.length_append, List.length_cons]
    omega
theorem op_short (c : Int) : (opS c).length ≤ 2 := by
  unfold opS
  repeat' split
  all_goals simp
theorem show_len : ∀ (f : Nat) (c : Cd) (least : Nat), VC f c → (showF f c least).length + 10 ≤ 500 * 2 ^ f
  | 0, c, least, h => absurd h (by simp [VC])
  | f + 1, c, least, h => by
    have hb : (bareS f c).length + 12 ≤ 500 * 2 ^ (f + 1) := by
      have hp : 1 ≤ 2 ^ f := Nat.one_le_two_pow
      rw [Nat.pow_succ]
      rcases h with ⟨hk, he⟩ | ⟨hk, a, rfl, ha⟩ | ⟨hk, a, b, hc, ha, hb⟩
      · obtain ⟨_, _, _, _, t1, t2, ht, hl⟩ := compare_parts he
        have h1 := terms_short c.terms 0 ht
        have h2 := itoa_short c.than (by omega)
        have h3 := op_short c.cmp
        unfold bareS
        rw [if_pos hk]
        simp only [cmpS, List.length_append, List.length_cons, List.length_nil]
        omega
      · have h1 := show_len f a 3 ha
        have : bareS f (.mk 1 [] 0 0 [a]) = wNot ++ [32] ++ showF f a 3 := rfl
        rw [this]
        simp only [wNot, List.length_append, List.length_cons, List.length_nil]
        omega
      · generalize c.kind = k at *
        subst hc
        rcases hk with rfl | rfl
        · have h1 := show_len f a 2 ha
          have h2 := show_len f b 3 hb
          have : bareS f (.mk 2 [] 0 0 [a, b]) = showF f a 2 ++ ([32] ++ wAnd ++ [32]) ++ showF f b 3 := rfl
          rw [this]
          simp only [wAnd, List.length_append, List.length_cons, List.length_nil]
          omega
        · have h1 := show_len f a 1 ha
          have h2 := show_len f b 2 hb
          have : bareS f (.mk 3 [] 0 0 [a, b]) = showF f a 1 ++ ([32] ++ wOr ++ [32]) ++ showF f b 2 := rfl
          rw [this]
          simp only [wOr, List.length_append, List.length_cons, List.length_nil]
          omega
    rw [show_bare]
    split
    · simp only [List.length_append, List.length_cons, List.length_nil]; omega
    · omega
end Go.Proofs.YtonmpealebggoaaDoor
