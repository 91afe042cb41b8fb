/- The walk of folded: the pile of a sheet that is folded whole. -/
import Derived.Test.YtjmanooedgfbaaaDoorAfter
import Derived.Test.YtjmanooedgfbaaaDoorFoldLaw
namespace Go.Proofs.YtjmanooedgfbaaaDoor
open Go.RowKit
/-- A layout that Check accepts. -/
structure Good (C R : Nat) (l : List Step) : Prop where
  c1 : 1 ≤ C
  c8 : C ≤ 8
  r1 : 1 ≤ R
  r8 : R ≤ 8
  cr : R * C ≤ 32
  n8 : l.length ≤ 8
  ok : okSteps (flatS C R) l
theorem chk_zero {C R : Int} {l : List Step} (h : chk C R l = 0) : ∃ c r : Nat, C = c ∧ R = r ∧ Good c r l := by
  unfold chk at h
  by_cases h1 : C < 1 ∨ 8 < C ∨ R < 1 ∨ 8 < R
  · rw [if_pos h1] at h; cases h
  · rw [if_neg h1] at h
    by_cases h2 : 32 < C * R ∨ 8 < l.length
    · rw [if_pos h2] at h; cases h
    · rw [if_neg h2] at h
      obtain ⟨c, rfl⟩ := Int.eq_ofNat_of_zero_le (show 0 ≤ C by omega)
      obtain ⟨r, rfl⟩ := Int.eq_ofNat_of_zero_le (show 0 ≤ R by omega)
      have h3 : r * c ≤ 32 := by
        have : (c : Int) * (r : Int) ≤ 32 := by omega
        rw [← Int.natCast_mul] at this; rw [Nat.mul_comm]; omega
      exact ⟨c, r, rfl, rfl, by omega, by omega, by omega, by omega, h3, by omega, chkSteps_ok.1 h⟩
theorem good_chk {C R : Nat} {l : List Step} (h : Good C R l) : chk C R l = 0 := by
  obtain ⟨a, b, c, d, e, f, g⟩ := h
  have h3 : (C : Int) * (R : Int) ≤ 32 := by rw [← Int.natCast_mul, Nat.mul_comm]; omega
  unfold chk
  rw [if_neg (by omega), if_neg (by omega)]
  exact chkSteps_ok.2 g
def whole (C R : Nat) (l : List Step) : Prop := (foldAll (flatS C R) l).cols = 1 ∧ (foldAll (flatS C R) l).rows = 1
/-- The side of the last fold. -/
def lastSide (l : List Step) : Int := if l.length = 0 then 0 else (st l (l.length - 1)).side
theorem lastSide_range {C R : Nat} {l : List Step} (h : okSteps (flatS C R) l) : 0 ≤ lastSide l ∧ lastSide l ≤ 3 := by
  unfold lastSide
  split
  · omega
  · have e := take_step l (j := l.length - 1) (by omega)
    rw [show l.length - 1 + 1 = l.length by omega, List.take_length] at e
    rw [e, okSteps_snoc] at h
    exact ⟨h.2.1, h.2.2.1⟩
def FoldedPost (l : List Leaf) (side : Int) (w : World) (e : Ending) (w' : World) : Prop :=
  ∃ v, e = .returned (.tuple #[v, .int .i64 side, .int .i64 0]) ∧ Lv w' (fun b => w.heap.size ≤ b) v l ∧ Below w.heap.size w w'
def FoldedErr (z : Int) (w : World) (e : Ending) (w' : World) : Prop := e = .returned (.tuple #[.slice none 0 0, .int .i64 0, .int .i64 z]) ∧ Below w.heap.size w w'
set_option maxRecDepth 100000 in
set_option maxHeartbeats 4000000 in
theorem folded_ok (C R : Nat) (v : Value) (l : List Step) (w : World) (hI : Sv w v l) (hg : Good C R l) (hw : whole C R l) :
    Calls Tryd.prog 18 #[.agg #[.int .i64 (C : Int), .int .i64 (R : Int), v]] w (FoldedPost (endPile C R l) (lastSide l) w) := by
  have HI := Lib.hid hI
  have hg' := hg
  obtain ⟨g1, g2, g3, g4, g5, g6, g7⟩ := hg'
  obtain ⟨w1', w2'⟩ := hw
  obtain ⟨Av, cv, ev⟩ := SlM.form HI.out
  have hcapn := (SlM.caps (ev ▸ HI.out)).2.1
  have hAft : Hid (∀ w', Below w.heap.size w w' → Calls Tryd.prog 27 #[.agg #[.int .i64 (C : Int), .int .i64 (R : Int), v], .int .i64 (l.length : Nat)] w' (AfterPost (foldAll (flatS C R) l) w')) := fun w' hb => by
    have := after_ok C R v l l.length w' (SlM.later HI.out hb) g1 g2 g3 g4 g5 g6 (good_chk hg) g7 (Nat.le_refl _)
    rwa [List.take_length] at this
  have HP : Hid (∀ e w', FoldedPost (endPile C R l) (lastSide l) w e w' = ∃ v, e = .returned (.tuple #[v, .int .i64 (lastSide l), .int .i64 0]) ∧ Lv w' (fun b => w.heap.size ≤ b) v (endPile C R l) ∧ Below w.heap.size w w') := fun _ _ => rfl
  generalize FoldedPost (endPile C R l) (lastSide l) w = Post at *
  have HEnd : Hid (endPile C R l = (foldAll (flatS C R) l).P 0 0) := rfl
  have HLast : Hid (lastSide l = if l.length = 0 then 0 else (st l (l.length - 1)).side) := rfl
  generalize lastSide l = sd at *
  generalize endPile C R l = pile at *
  generalize foldAll (flatS C R) l = x at *
  have hb0 := Lib.hid ((Below.refl w.heap.size w).alloc (Nat.le_refl _) (Obj.cells #[.int .i64 (C : Int), .int .i64 (R : Int), v] 24))
  have hbl0 := Lib.hid (Blk.new w 24 #[.int .i64 (C : Int), .int .i64 (R : Int), v])
  generalize hlen : l.length = n at *
  have HN := Lib.hid hlen
  subst ev
  clear hI hg hlen g7
  go_enter Tryd.func18, Tryd.ntmps18
  go_wp2_with fail
  refine (hAft.out _ hb0.out).mono ?_; rintro e w1 ⟨vx, vals, rfl, hpl, hb1⟩
  have x0 := hbl0.out.below hb1 hbl0.out.lt
  have be1 := hb0.out.trans (hb1.mono hb0.out.size)
  have c2 : w1.cell? ⟨w.heap.size, 2, none⟩ = some (.slice Av n cv) := x0.cell 2
  have hz := x0.lt
  have hlv : Lv w1 (fun b => w.heap.size ≤ b) (vals.getD 0 undef) pile := by
    have hl : vals.length = 1 := by rw [hpl.len, pilesOf_length, w1', w2']
    have h1 := hpl.inn 0 (vals.getD 0 undef) (by rw [List.getD_eq_getElem?_getD, List.getElem?_eq_getElem (by omega)]; rfl)
    have h2 := pilesOf_get x (c := 0) (r := 0) (by omega) (by omega)
    have e : (pilesOf x).getD 0 [] = pile := by
      rw [HEnd.out, List.getD_eq_getElem?_getD, show (pilesOf x)[0]? = some (x.P 0 0) by simpa using h2]; rfl
    rw [e] at h1
    exact SlM.mono h1 fun b _ (h : _ ≤ b) => by simp at h; omega
  obtain ⟨b, off, cc, hv2, _, hbl, hcap, hcell⟩ := hpl.out.sat (i := 0) (by rw [hpl.len, pilesOf_length, w1', w2']; omega)
  have hvl : vals.length = 1 := by rw [hpl.len, pilesOf_length, w1', w2']
  rw [hvl] at hv2 hcap
  rw [Nat.add_zero] at hcell
  obtain ⟨Ap, cp, hp⟩ := SlM.form hlv
  rw [hp] at hlv hcell
  subst hv2
  have HLv := Lib.hid hlv
  have HBe := Lib.hid be1
  generalize pile.length = np at *
  clear hpl hlv x0 be1 hp
  have hstep : n = 0 ∨ ∃ bS oS, Av = some ⟨bS, oS, none⟩ ∧ w1.cell? ⟨bS, oS + (n - 1) * 3, none⟩ = some (.int .i64 sd) ∧ 0 < n ∧ bS < w1.heap.size := by
    rcases Nat.eq_zero_or_pos n with h | h
    · exact .inl h
    · obtain ⟨bS, oS, cS, eS, hbS, _, _, hcS⟩ := (HI.out).cells3 (by rw [HN.out]; exact h)
      injection eS with eA _ _
      obtain ⟨q0, _, _⟩ := hcS (n - 1) (by rw [HN.out]; omega)
      have e : sd = (st l (n - 1)).side := by rw [HLast.out, if_neg (by omega)]
      rw [← e] at q0
      exact .inr ⟨bS, oS, eA, (HBe.out.cell (p := ⟨bS, oS + (n - 1) * 3, none⟩) hbS).trans q0, h, by omega⟩
  rw [w1', w2']
  clear hb1
  rcases hstep with h0 | ⟨bS, oS, eA, hside, hpos, hbS1⟩
  · obtain rfl : sd = 0 := by rw [HLast.out, if_pos h0]
    subst h0
    clear w1' w2'
    go_wp2
    go_ret3
    rw [HP.out]
    exact ⟨_, rfl, SlM.alloc HLv.out _, HBe.out.alloc HBe.out.size _⟩
  · subst eA
    clear w1' w2'
    go_wp2
    go_ret3
    rw [HP.out]
    exact ⟨_, rfl, SlM.alloc HLv.out _, HBe.out.alloc HBe.out.size _⟩
/-- What folded answers where it has no pile. -/
def foldedZ (C R : Int) (l : List Step) : Int :=
  if chk C R l ≠ 0 then chk C R l else if (foldAll (flatS C.toNat R.toNat) l).cols ≠ 1 ∨ (foldAll (flatS C.toNat R.toNat) l).rows ≠ 1 then 9 else 0
theorem foldedZ_zero {C R : Int} {l : List Step} (h : foldedZ C R l = 0) : ∃ c r : Nat, C = c ∧ R = r ∧ Good c r l ∧ whole c r l := by
  unfold foldedZ at h
  by_cases h1 : chk C R l = 0
  · rw [if_neg (by simpa using h1)] at h
    obtain ⟨c, r, rfl, rfl, hg⟩ := chk_zero h1
    refine ⟨c, r, rfl, rfl, hg, ?_⟩
    by_cases h2 : (foldAll (flatS (c : Int).toNat (r : Int).toNat) l).cols ≠ 1 ∨ (foldAll (flatS (c : Int).toNat (r : Int).toNat) l).rows ≠ 1
    · rw [if_pos h2] at h; cases h
    · simp only [Int.toNat_natCast, not_or, Decidable.not_not] at h2; exact h2
  · rw [if_pos h1] at h; exact absurd h h1
set_option maxRecDepth 100000 in
set_option maxHeartbeats 4000000 in
theorem folded_bad (C R : Int) (v : Value) (l : List Step) (w : World) (hI : Sv w v l) (hz : foldedZ C R l ≠ 0) :
    Calls Tryd.prog 18 #[.agg #[.int .i64 C, .int .i64 R, v]] w (FoldedErr (foldedZ C R l) w) := by
  have HI := Lib.hid hI
  obtain ⟨Av, cv, ev⟩ := SlM.form HI.out
  have hcapn := (SlM.caps (ev ▸ HI.out)).2.1
  have hmax := (SlM.caps (ev ▸ HI.out)).2.2
  unfold maxLen at hmax
  have HE : Hid (∀ z e w', FoldedErr z w e w' = (e = .returned (.tuple #[.slice none 0 0, .int .i64 0, .int .i64 z]) ∧ Below w.heap.size w w')) := fun _ _ _ => rfl
  have hb0 := Lib.hid ((Below.refl w.heap.size w).alloc (Nat.le_refl _) (Obj.cells #[.int .i64 C, .int .i64 R, v] 24))
  have hbl0 := Lib.hid (Blk.new w 24 #[.int .i64 C, .int .i64 R, v])
  by_cases h1 : chk C R l = 0
  · obtain ⟨c, r, rfl, rfl, hg⟩ := chk_zero h1
    have e : foldedZ c r l = if (foldAll (flatS c r) l).cols ≠ 1 ∨ (foldAll (flatS c r) l).rows ≠ 1 then 9 else 0 := by unfold foldedZ; rw [if_neg (by simpa using h1)]; rfl
    have hd : (foldAll (flatS c r) l).cols ≠ 1 ∨ (foldAll (flatS c r) l).rows ≠ 1 := by
      by_cases hd : (foldAll (flatS c r) l).cols ≠ 1 ∨ (foldAll (flatS c r) l).rows ≠ 1
      · exact hd
      · rw [e, if_neg hd] at hz; exact absurd rfl hz
    have e9 : foldedZ c r l = 9 := by rw [e, if_pos hd]
    rw [e9]
    have hAft : Hid (∀ w', Below w.heap.size w w' → Calls Tryd.prog 27 #[.agg #[.int .i64 (c : Int), .int .i64 (r : Int), v], .int .i64 (l.length : Nat)] w' (AfterPost (foldAll (flatS c r) l) w')) := fun w' hb => by
      obtain ⟨g1, g2, g3, g4, g5, g6, g7⟩ := hg
      have := after_ok c r v l l.length w' (SlM.later HI.out hb) g1 g2 g3 g4 g5 g6 (by first | exact h1) g7 (Nat.le_refl _)
      rwa [List.take_length] at this
    have hz9 := HE.out 9
    have HZ := Lib.hid hz9
    generalize FoldedErr 9 w = Post at *
    generalize foldAll (flatS c r) l = x at *
    generalize l.length = n at *
    clear hI hz e e9 h1 hz9
    subst ev
    by_cases hd1 : x.cols = 1
    · have hd2 : ((x.rows : Int) == 1) = false := by rw [beq_eq_false_iff_ne]; omega
      have hd2' : ((x.rows : Int) != 1) = true := by simp only [bne, hd2]; rfl
      have hd1' : ((x.cols : Int) == 1) = true := by rw [beq_iff_eq]; omega
      have hd1'' : ((x.cols : Int) != 1) = false := by simp only [bne, hd1']; rfl
      clear hd hd1
      go_enter Tryd.func18, Tryd.ntmps18
      go_wp2_with fail
      refine (hAft.out _ hb0.out).mono ?_; rintro e w1 ⟨vx, vals, rfl, hpl, hb1⟩
      have HBe := Lib.hid (hb0.out.trans (hb1.mono hb0.out.size))
      obtain ⟨Ax, cx, ex⟩ := hpl.out.form
      subst ex
      clear hb1 hpl
      go_wp2
      go_ret3
      rw [HZ.out]
      exact ⟨rfl, HBe.out.alloc HBe.out.size _⟩
    · have hd1' : ((x.cols : Int) == 1) = false := by rw [beq_eq_false_iff_ne]; omega
      have hd1'' : ((x.cols : Int) != 1) = true := by simp only [bne, hd1']; rfl
      clear hd hd1
      go_enter Tryd.func18, Tryd.ntmps18
      go_wp2_with fail
      refine (hAft.out _ hb0.out).mono ?_; rintro e w1 ⟨vx, vals, rfl, hpl, hb1⟩
      have HBe := Lib.hid (hb0.out.trans (hb1.mono hb0.out.size))
      obtain ⟨Ax, cx, ex⟩ := hpl.out.form
      subst ex
      clear hb1 hpl
      go_wp2
      go_ret3
      rw [HZ.out]
      exact ⟨rfl, HBe.out.alloc HBe.out.size _⟩
  · have e : foldedZ C R l = chk C R l := by unfold foldedZ; rw [if_pos h1]
    have hAft : Hid (∀ w', Below w.heap.size w w' → Calls Tryd.prog 27 #[.agg #[.int .i64 C, .int .i64 R, v], .int .i64 (l.length : Nat)] w' (AfterErr (chk C R l) w')) := fun w' hb => after_bad C R _ v l w' (SlM.later HI.out hb) h1
    rw [e]
    have HZ := Lib.hid (HE.out (chk C R l))
    generalize FoldedErr (chk C R l) w = Post at *
    generalize chk C R l = z at *
    have hz1 : (z != 0) = true := by simpa using h1
    generalize l.length = n at *
    clear hI hz e h1
    subst ev
    go_enter Tryd.func18, Tryd.ntmps18
    go_wp2_with fail
    refine (hAft.out _ hb0.out).mono ?_; rintro e w1 ⟨rfl, hb1⟩
    have HBe := Lib.hid (hb0.out.trans (hb1.mono hb0.out.size))
    clear hb1
    go_wp2
    go_ret3
    rw [HZ.out]
    exact ⟨rfl, HBe.out.alloc HBe.out.size _⟩
end Go.Proofs.YtjmanooedgfbaaaDoor
