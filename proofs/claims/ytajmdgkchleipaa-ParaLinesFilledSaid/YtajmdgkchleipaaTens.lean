/- The fixed example that every law of this seat tries first. -/
import Derived.Test.YtajmdgkchleipaaBreak
import Derived.Test.YtajmdgkchleipaaEqualInts
namespace Go.Proofs.Ytajmdgkchleipaa
open Go.RowKit Para
def tens : List Wd := [⟨[10], []⟩, ⟨[10], []⟩, ⟨[10], []⟩]
def tshape : Shape := ⟨24, 5, 3, 9, 0, 0⟩
theorem tens_best : best tshape (flatW tens) = some (1, 2) := by decide
theorem tens_lines : linesOf tshape (flatW tens) = [⟨0, 2, false, [4]⟩, ⟨2, 3, false, []⟩] := by rfl
theorem tens_at (i : Nat) (h : i < tens.length) : wdAt tens i = ⟨[10], []⟩ := by
  match i, h with
  | 0, _ => rfl
  | 1, _ => rfl
  | 2, _ => rfl
  | i + 3, h => exact absurd h (by simp [tens])
theorem tens_good : Good tens tshape := by
  refine ⟨by decide, fun i hi => ?_, fun i hi => ?_, ⟨by decide, by decide, by decide, by decide, by decide, by decide, by decide, by decide, by decide, by decide⟩⟩
  · rw [tens_at i hi]
    refine ⟨⟨by decide, by decide⟩, fun j hj => ?_, fun j hj => by simp at hj⟩
    have : j = 0 := by simp at hj; omega
    subst this; decide
  · match i, hi with
    | 0, _ => decide
    | 1, _ => decide
    | 2, _ => decide
    | 3, _ => decide
    | i + 4, h => simp [tens] at h
/-- The world in which the three words lie. -/
def tw (w : World) : World := (((w.alloc (Obj.cells #[Value.int IntKind.i64 10] 3)).alloc
        (Obj.cells #[Value.slice (some ⟨w.heap.size, 0, none⟩) 1 1, Value.slice none 0 0] 33)).alloc
    (Obj.cells
      #[Value.slice (some ⟨w.heap.size, 0, none⟩) 1 1, Value.slice none 0 0,
        Value.slice (some ⟨w.heap.size, 0, none⟩) 1 1, Value.slice none 0 0,
        Value.slice (some ⟨w.heap.size, 0, none⟩) 1 1, Value.slice none 0 0]
      33))
theorem tw_below (w : World) : Below w.heap.size w (tw w) := ((((Below.refl w.heap.size w).alloc (Nat.le_refl _) _).alloc (by simp) _).alloc (by simp; omega) _)
theorem tens_in (w : World) : WordsIn (tw w) (w.heap.size + 1 + 1) 0 tens := by
  have hB : Blk (tw w) (w.heap.size + 1 + 1) 33 #[Value.slice (some ⟨w.heap.size, 0, none⟩) 1 1, Value.slice none 0 0, Value.slice (some ⟨w.heap.size, 0, none⟩) 1 1, Value.slice none 0 0, Value.slice (some ⟨w.heap.size, 0, none⟩) 1 1, Value.slice none 0 0] := by
    have := Blk.new ((w.alloc (Obj.cells #[Value.int IntKind.i64 10] 3)).alloc (Obj.cells #[Value.slice (some ⟨w.heap.size, 0, none⟩) 1 1, Value.slice none 0 0] 33)) 33 #[Value.slice (some ⟨w.heap.size, 0, none⟩) 1 1, Value.slice none 0 0, Value.slice (some ⟨w.heap.size, 0, none⟩) 1 1, Value.slice none 0 0, Value.slice (some ⟨w.heap.size, 0, none⟩) 1 1, Value.slice none 0 0]
    simpa [tw] using this
  have hA : Blk (tw w) w.heap.size 3 #[Value.int .i64 10] := ((Blk.new w 3 #[Value.int .i64 10]).alloc _).alloc _
  refine ⟨hB.lt, fun i hi => by rw [tens_at i hi]; decide, fun i hi => ?_⟩
  rw [tens_at i hi]
  have hs1 : Sl (tw w) (fun _ => True) (.slice (some ⟨w.heap.size, 0, none⟩) 1 1) (ints [10]) := by
    refine ⟨_, 1, rfl, by decide, by decide, fun _ => ⟨_, rfl, trivial, hA.lt, fun j u hu => ?_⟩⟩
    have hj : j = 0 := by have := (List.getElem?_eq_some_iff.1 hu).1; simp [ints] at this; omega
    subst hj
    rw [add_plain, hA.cell]; simpa [ints] using hu
  refine ⟨some ⟨w.heap.size, 0, none⟩, 1, none, 0, ?_, ?_, hs1, Sl.nil _ _⟩
  · rw [hB.cell]
    match i, hi with
    | 0, _ => rfl
    | 1, _ => rfl
    | 2, _ => rfl
    | i + 3, h => exact absurd h (by simp [tens])
  · rw [hB.cell]
    match i, hi with
    | 0, _ => rfl
    | 1, _ => rfl
    | 2, _ => rfl
    | i + 3, h => exact absurd h (by simp [tens])
theorem tens_break (w : World) : Calls Try.prog 7 #[.slice (some ⟨w.heap.size + 1 + 1, 0, none⟩) 3 3, .agg #[.int .i64 24, .int .i64 5, .int .i64 3, .int .i64 9, .int .i64 0, .int .i64 0]] (tw w)
    fun e w' => ∃ g c Ag cg, e = .returned (.tuple #[.slice (some ⟨g, 0, none⟩) 2 c, .int .i64 1, .int .i64 0]) ∧ Below w.heap.size w w' ∧ g < w'.heap.size ∧ w'.cell? ⟨g, 1, none⟩ = some (.int .i64 2) ∧ w'.cell? ⟨g, 3, none⟩ = some (.slice Ag 1 cg) ∧ Sl w' (fun _ => True) (.slice Ag 1 cg) (ints [4]) := by
  refine (break_any (w.heap.size + 1 + 1) 0 3 tens tshape (tw w) (tens_in w) (by decide) (by decide)).mono ?_
  rintro e w' ⟨hb, h | ⟨_, b, A, c, hbest, rfl, hl⟩⟩
  · obtain ⟨z, _, _, h⟩ := h
    have := h tens_good
    rw [tens_best] at this; cases this
  · rw [tens_best] at hbest
    injection hbest with hbest
    subst hbest
    rw [tens_lines] at hl
    obtain ⟨g, cg, hv, hlt, hc⟩ := hl.at_ (by decide)
    injection hv with hA hn hcc
    subst hA
    obtain ⟨Ag, ca, h0, h1, h2, h3, h4⟩ := hc 0 (by decide)
    exact ⟨g, c, Ag, ca, by rw [tens_lines]; rfl, (tw_below w).trans (hb.mono (tw_below w).size), hlt, h1, h3, h4⟩
set_option maxHeartbeats 2000000 in
set_option maxRecDepth 100000 in
theorem breaks_any (w : World) : Calls Try.prog 6 #[] w fun e w' => e = .returned (.bool true) ∧ Below w.heap.size w w' := by
  have HT := Lib.hid (tens_break w)
  go_enter Try.func6, Try.ntmps6
  go_wp2_with fail
  refine HT.out.mono ?_
  rintro e w1 ⟨g, c, Ag, cg, rfl, hb, hlt, c1, c3, hs⟩
  have HB := Lib.hid hb
  have HS := Lib.hid hs
  clear hb hs HT
  go_wp2_with fail
  have h4 : Sl (w1.alloc (Obj.cells #[Value.int .i64 4] 3)) (fun _ => True) (.slice (some ⟨w1.heap.size, 0, none⟩) 1 1) (ints [4]) := by
    refine ⟨_, 1, rfl, by decide, by decide, fun _ => ⟨_, rfl, trivial, by simp, fun j u hu => ?_⟩⟩
    have hj : j = 0 := by have := (List.getElem?_eq_some_iff.1 hu).1; simp [ints] at this; omega
    subst hj
    rw [add_plain, (Blk.new w1 3 #[Value.int .i64 4]).cell]; simpa [ints] using hu
  refine (equal_ints _ _ [4] [4] _ _ _ (HS.out.alloc _) h4).mono ?_
  rintro e w2 ⟨rfl, hsame⟩
  have hb2 := (HB.out.alloc HB.out.size (Obj.cells #[Value.int .i64 4] 3)).trans (hsame.below _)
  have HB2 := Lib.hid hb2
  clear hb2 hsame h4
  go_wp2
  go_ret
  exact ⟨rfl, HB2.out⟩
end Go.Proofs.Ytajmdgkchleipaa
