/- The walk of glyph. -/
import Derived.Test.YtefkglmdkjkbiaaDoorFntCon
namespace Go.Proofs.YtefkglmdkjkbiaaDoor
open Go.RowKit Fnt
theorem Cons.form {w : World} {ok : Nat → Prop} {v : Value} {cs : List (List Pt)} (h : Cons w ok v cs) : ∃ A c, v = .slice A cs.length c ∧ cs.length ≤ c ∧ c ≤ maxLen := by
  obtain ⟨vs, h1, _⟩ := h
  obtain ⟨A, c, hv, a, b, _⟩ := h1
  exact ⟨A, c, hv, a, b⟩
theorem Pas.form {w : World} {ok : Nat → Prop} {v : Value} {ps : List Part} (h : Pas w ok v ps) : ∃ A c, v = .slice A ps.length c ∧ ps.length ≤ c ∧ c ≤ maxLen := by
  obtain ⟨A, c, hv, a, b, _⟩ := h
  exact ⟨A, c, hv, a, b⟩
theorem glyph_early (G : Gl) (many : Nat) (Ac Ap : Option Addr) (cc cp : Nat) (w : World) (hs : G.cs.length ≤ maxLen) (hs2 : G.ps.length ≤ maxLen)
    (h : (decide (G.adv < 0) || decide (2047 < G.adv)) = true ∨ (decide (0 < G.cs.length) && decide (0 < G.ps.length)) = true ∨ (decide (8 < G.cs.length) || decide (4 < G.ps.length)) = true) :
    Calls Tryd.prog 42 #[.agg #[.int .i64 G.adv, .slice Ac G.cs.length cc, .slice Ap G.ps.length cp], .int .i64 many] w fun e w' => e = .returned (.int .i64 (glyphE G many)) ∧ Below w.heap.size w w' := by
  have HD : Hid (glyphE G many = (if decide (G.adv < 0) || decide (2047 < G.adv) then 3 else if decide (0 < G.cs.length) && decide (0 < G.ps.length) then 4 else if decide (8 < G.cs.length) || decide (4 < G.ps.length) then 2
    else if scan (conE G) G.cs.length = 0 then scan (parE many G) G.ps.length else scan (conE G) G.cs.length)) := rfl
  generalize glyphE G many = r at *
  generalize scan (conE G) G.cs.length = s1 at *
  generalize scan (parE many G) G.ps.length = s2 at *
  unfold maxLen at hs hs2
  generalize G.adv = a at *
  generalize G.cs.length = n at *
  generalize G.ps.length = m at *
  have HB : Hid (∀ o, Below w.heap.size w (w.alloc o)) := fun o => (Below.refl _ _).alloc (Nat.le_refl _) o
  by_cases h1 : a < 0
  · have HE : Hid (r = 3) := by unfold Hid; rw [HD.out, decide_eq_true h1]; rfl
    clear h HD
    go_enter Tryd.func42, Tryd.ntmps42
    go_wp2
    go_ret
    exact ⟨endInt HE.out.symm, HB.out _⟩
  · by_cases h2 : 2047 < a
    · have HE : Hid (r = 3) := by unfold Hid; rw [HD.out, decide_eq_true h2]; simp
      clear h HD
      go_enter Tryd.func42, Tryd.ntmps42
      go_wp2
      go_ret
      exact ⟨endInt HE.out.symm, HB.out _⟩
    · rw [decide_eq_false h1, decide_eq_false h2] at HD h
      by_cases h3 : 0 < n ∧ 0 < m
      · obtain ⟨h3, h4⟩ := h3
        have HE : Hid (r = 4) := by unfold Hid; rw [HD.out, decide_eq_true h3, decide_eq_true h4]; rfl
        clear h HD
        go_enter Tryd.func42, Tryd.ntmps42
        go_wp2
        go_ret
        exact ⟨endInt HE.out.symm, HB.out _⟩
      · have h5 : 8 < n ∨ 4 < m := by
          rcases h with h | h | h
          · cases h
          · simp at h; exact absurd h h3
          · simpa using h
        have HE : Hid (r = 2) := by
          have e1 : (decide (0 < n) && decide (0 < m)) = false := by simp; omega
          have e2 : (decide (8 < n) || decide (4 < m)) = true := by simpa using h5
          unfold Hid; rw [HD.out, e1, e2]; rfl
        clear h HD
        by_cases h6 : 8 < n
        · obtain rfl : m = 0 := by omega
          clear h3
          go_enter Tryd.func42, Tryd.ntmps42
          go_wp2
          go_ret
          exact ⟨endInt HE.out.symm, HB.out _⟩
        · have h7 : 4 < m := by omega
          obtain rfl : n = 0 := by omega
          clear h3 h5
          go_enter Tryd.func42, Tryd.ntmps42
          go_wp2
          go_ret
          exact ⟨endInt HE.out.symm, HB.out _⟩
end Go.Proofs.YtefkglmdkjkbiaaDoor
