/- The walk of Check: which layouts are accepted. -/
import Derived.Test.YtjmanooedgfbaaaDoorFold
namespace Go.Proofs.YtjmanooedgfbaaaDoor
open Go.RowKit
def step0 : Step := ⟨0, 0, false⟩
def st (l : List Step) (i : Nat) : Step := l.getD i step0
def scell (f : Step) : List Value := [.int .i64 f.side, .int .i64 f.line, .bool f.over]
def scells (l : List Step) : List Value := l.flatMap scell
theorem scells_at (l : List Step) (i j : Nat) (hi : i < l.length) (hj : j < 3) : (scells l)[i * 3 + j]? = (scell (st l i))[j]? := by
  induction l generalizing i with
  | nil => simp at hi
  | cons p l ih =>
    cases i with
    | zero =>
      have : st (p :: l) 0 = p := rfl
      rw [this]
      simp only [scells, List.flatMap_cons]
      rw [List.getElem?_append_left (by simp [scell]; omega)]; simp
    | succ i =>
      have e : st (p :: l) (i + 1) = st l i := rfl
      rw [e, ← ih i (by simpa using hi)]
      simp only [scells, List.flatMap_cons]
      rw [List.getElem?_append_right (by simp [scell]; omega)]
      congr 1; simp [scell]; omega
/-- A slice value reads as these steps. -/
def Sv (w : World) (v : Value) (l : List Step) : Prop := SlM w (fun _ => True) v l.length (scells l)
theorem Sv.cells3 {w : World} {v : Value} {l : List Step} (h : Sv w v l) (hn : 0 < l.length) : ∃ b off cap, v = .slice (some ⟨b, off, none⟩) l.length cap ∧ b < w.heap.size ∧ l.length ≤ cap ∧ cap ≤ maxLen ∧
    ∀ i, i < l.length → w.cell? ⟨b, off + i * 3, none⟩ = some (.int .i64 (st l i).side) ∧ w.cell? ⟨b, off + i * 3 + 1, none⟩ = some (.int .i64 (st l i).line) ∧ w.cell? ⟨b, off + i * 3 + 2, none⟩ = some (.bool (st l i).over) := by
  obtain ⟨b, off, cap, hv, _, hl, h1, h2, hc⟩ := SlM.open_ h hn
  refine ⟨b, off, cap, hv, hl, h1, h2, fun i hi => ?_⟩
  have key : ∀ j u, j < 3 → (scell (st l i))[j]? = some u → w.cell? ⟨b, off + i * 3 + j, none⟩ = some u := fun j u hj hu => by
    rw [Nat.add_assoc]; exact hc _ u ((scells_at l i j hi hj).trans hu)
  exact ⟨key 0 _ (by omega) rfl, key 1 _ (by omega) rfl, key 2 _ (by omega) rfl⟩
/-- The first error of the steps of a layout. -/
def chkSteps : Sheet → List Step → Int
  | _, [] => 0
  | S, f :: l => if f.side < 0 ∨ 3 < f.side then 14 else if f.line < 1 ∨ (ext S f : Int) ≤ f.line then 3 else chkSteps (foldS S f) l
def chk (C R : Int) (l : List Step) : Int :=
  if C < 1 ∨ 8 < C ∨ R < 1 ∨ 8 < R then 3 else if 32 < C * R ∨ 8 < l.length then 2 else chkSteps (flatS C.toNat R.toNat) l
theorem chkSteps_ok {l : List Step} : ∀ {S : Sheet}, chkSteps S l = 0 ↔ okSteps S l := by
  induction l with
  | nil => intro S; simp [chkSteps, okSteps]
  | cons f l ih =>
    intro S
    simp only [chkSteps, okSteps, okStep]
    by_cases h1 : f.side < 0 ∨ 3 < f.side
    · rw [if_pos h1]; constructor
      · intro h; cases h
      · rintro ⟨⟨a, b, _⟩, _⟩; omega
    · rw [if_neg h1]
      by_cases h2 : f.line < 1 ∨ (ext S f : Int) ≤ f.line
      · rw [if_pos h2]; constructor
        · intro h; cases h
        · rintro ⟨⟨_, _, a, b⟩, _⟩; omega
      · rw [if_neg h2, ih]; exact ⟨fun h => ⟨⟨by omega, by omega, by omega, by omega⟩, h⟩, fun h => h.2⟩
theorem drop_step (l : List Step) {j : Nat} (h : j < l.length) : l.drop j = st l j :: l.drop (j + 1) := by
  rw [List.drop_eq_getElem_cons h, st, List.getD_eq_getElem?_getD, List.getElem?_eq_getElem h]; rfl
theorem take_step (l : List Step) {j : Nat} (h : j < l.length) : l.take (j + 1) = l.take j ++ [st l j] := by
  rw [List.take_succ_eq_append_getElem h, st, List.getD_eq_getElem?_getD, List.getElem?_eq_getElem h]; rfl
/-- What Check has in memory. -/
structure CM (C R : Nat) (v : Value) (l : List Step) (B : Nat) (w wr : World) (x : Sheet) (vx : Value) (vals : List Value) : Prop where
  b0 : Blk wr w.heap.size 24 #[.int .i64 (C : Int), .int .i64 (R : Int), v]
  b3 : Blk wr B 67 #[.int .i64 (x.cols : Int), .int .i64 (x.rows : Int), vx]
  pl : Pl (fun b => b ≠ B) wr vx vals (pilesOf x)
  be : Below w.heap.size w wr
  hB : w.heap.size + 1 ≤ B
theorem CM.later {C R : Nat} {v : Value} {l : List Step} {B : Nat} {w wr w' : World} {x : Sheet} {vx : Value} {vals : List Value} (h : CM C R v l B w wr x vx vals) (hb : Below wr.heap.size wr w') : CM C R v l B w w' x vx vals :=
  ⟨h.b0.below hb h.b0.lt, h.b3.below hb h.b3.lt, h.pl.later hb, h.be.trans (hb.mono h.be.size), h.hB⟩
theorem okSteps_room {C R : Nat} {l : List Step} (hCR : R * C ≤ 32) (h : okSteps (flatS C R) l) (c r : Int) : (pileAt (foldAll (flatS C R) l) c r).length ≤ 1000 := by
  unfold pileAt
  split
  · have := pile_length h (c := c.toNat) (r := r.toNat) (by omega) (by omega); omega
  · simp
def ErrPost (z : Int) (w : World) (e : Ending) (w' : World) : Prop := e = .returned (.int .i64 z) ∧ Below w.heap.size w w'
set_option maxRecDepth 100000 in
set_option maxHeartbeats 8000000 in
theorem check_in (C R : Nat) (v : Value) (l : List Step) (w : World) (hI : Sv w v l) (hC1 : 1 ≤ C) (hC : C ≤ 8) (hR1 : 1 ≤ R) (hR : R ≤ 8) (hCR : C * R ≤ 32) (hn : l.length ≤ 8) :
    Calls Tryd.prog 10 #[.agg #[.int .i64 (C : Int), .int .i64 (R : Int), v]] w (ErrPost (chkSteps (flatS C R) l) w) := by
  have HI := Lib.hid hI
  have hmul : (C : Int) * (R : Int) = ((C * R : Nat) : Int) := by simp
  have hRC : Hid (R * C ≤ 32) := by unfold Hid; rw [Nat.mul_comm]; exact hCR
  generalize hM : C * R = M at *
  have HM0 := Lib.hid hM
  clear hM hI
  obtain ⟨Av, cv, ev⟩ := SlM.form HI.out
  generalize hlen : l.length = n at *
  have HN := Lib.hid hlen
  have hfl := Lib.hid (fun w => flat_any C R Av n cv w hC hR)
  subst ev
  clear hlen
  have HX : Hid (∀ w1, Below (w.alloc (.cells #[.int .i64 (C : Int), .int .i64 (R : Int), .slice Av n cv] 24)).heap.size (w.alloc (.cells #[.int .i64 (C : Int), .int .i64 (R : Int), .slice Av n cv] 24)) w1 → w1.cell? ⟨w.heap.size, 2, none⟩ = some (.slice Av n cv) ∧ w.heap.size < w1.heap.size) := by
    intro w1 hb1
    have h1 := (Blk.new w 24 #[.int .i64 (C : Int), .int .i64 (R : Int), .slice Av n cv]).below hb1 (by simp)
    exact ⟨h1.cell 2, h1.lt⟩
  go_enter Tryd.func10, Tryd.ntmps10
  go_wp2_with (go_at_call 20; refine (hfl.out _).mono ?_; rintro e w1 ⟨vx, vals, rfl, hpl, hb1⟩; have HPl := Lib.hid hpl; have HB1 := Lib.hid hb1; obtain ⟨Ax, cx, ex⟩ := hpl.out.form; subst ex; obtain ⟨x2, hz1⟩ := HX.out _ hb1; clear hpl hb1)
  clear x2
  have hpl : Hid (∀ w', Below w1.heap.size w1 w' → Pl (fun b => b ≠ w1.heap.size) w' (.slice Ax vals.length cx) vals (pilesOf (flatS C R))) := fun w' h => (HPl.out.mono fun b hb _ => by omega).later h
  have hB1 : Hid (Blk w1 w.heap.size 24 #[.int .i64 (C : Int), .int .i64 (R : Int), .slice Av n cv]) := (Blk.new w _ _).below HB1.out (by simp)
  have HBe : Hid (Below w.heap.size w w1) := ((Below.refl _ _).alloc (Nat.le_refl _) _).trans (HB1.out.mono (by simp))
  go_loopw [41] (fun vj wr => ∃ (j : Nat) (vx : Value) (vals : List Value), j ≤ n ∧ vj = .int .i64 j ∧ okSteps (flatS C R) (l.take j) ∧ chkSteps (foldAll (flatS C R) (l.take j)) (l.drop j) = chkSteps (flatS C R) l ∧ CM C R (.slice Av n cv) l w1.heap.size w wr (foldAll (flatS C R) (l.take j)) vx vals) (fun j _ => n - (intOf j).toNat)
  case atStart =>
    refine ⟨0, .slice Ax vals.length cx, vals, by omega, rfl, trivial, rfl, ?_, ?_, ?_, ?_, by omega⟩
    · exact hB1.out.alloc _
    · exact Blk.new w1 _ _
    · exact hpl.out _ ((Below.refl _ _).alloc (Nat.le_refl _) _)
    · exact HBe.out.alloc HBe.out.size _
  case round =>
    obtain ⟨j, vx, vals2, hj, rfl, hok, hch, hm⟩ := hrel
    by_cases hlt : j < n
    · obtain ⟨bS, oS, cS, eS, hbS, hcapS, _, hcS⟩ := (HI.out).cells3 (by rw [HN.out]; omega)
      obtain ⟨g0, g1, g2⟩ := hcS j (by rw [HN.out]; exact hlt)
      rw [HN.out] at eS hcapS
      injection eS with eA _ eC
      subst eA; subst eC
      have d0 := (hm.be.cell (p := ⟨bS, oS + j * 3, none⟩) hbS).trans g0
      have d1 := (hm.be.cell (p := ⟨bS, oS + j * 3 + 1, none⟩) hbS).trans g1
      have d2 := (hm.be.cell (p := ⟨bS, oS + j * 3 + 2, none⟩) hbS).trans g2
      have HT := Lib.hid (take_step l (j := j) (by rw [HN.out]; exact hlt))
      have HD := Lib.hid (drop_step l (j := j) (by rw [HN.out]; exact hlt))
      rw [HD.out] at hch
      clear g0 g1 g2 hcS
      have HSm := Lib.hid (small_all hok (C := 8) (R := 8) ⟨hC1, hC, hR1, hR⟩)
      have HRm := Lib.hid (okSteps_room hRC.out hok)
      have HOk := Lib.hid hok
      obtain ⟨Ax2, cx2, ex2⟩ := hm.pl.out.form
      subst ex2
      generalize hx : foldAll (flatS C R) (l.take j) = x at *
      have HX2 := Lib.hid hx
      generalize hff : st l j = f at *
      have HFf := Lib.hid hff
      clear hx hff hok
      obtain ⟨side, line, over⟩ := f
      dsimp only at d0 d1 d2
      have HM := Lib.hid hm
      have HCh : Hid ((if side < 0 ∨ 3 < side then 14 else if line < 1 ∨ (ext x ⟨side, line, over⟩ : Int) ≤ line then 3 else chkSteps (foldS x ⟨side, line, over⟩) (l.drop (j + 1))) = chkSteps (flatS C R) l) := hch
      clear hm hch
      by_cases hs1 : side < 0
      · have hE : Hid (chkSteps (flatS C R) l = 14) := by unfold Hid; rw [← HCh.out, if_pos (.inl hs1)]
        go_wp2
        go_ret
        exact ⟨endInt hE.out.symm, HM.out.be.alloc HM.out.be.size _⟩
      · have hs1' : 0 ≤ side := by omega
        by_cases hs2 : 3 < side
        · have hE : Hid (chkSteps (flatS C R) l = 14) := by unfold Hid; rw [← HCh.out, if_pos (.inr hs2)]
          go_wp2
          go_ret
          exact ⟨endInt hE.out.symm, HM.out.be.alloc HM.out.be.size _⟩
        · have hs2' : side ≤ 3 := by omega
          by_cases hl1 : line < 1
          · have hE : Hid (chkSteps (flatS C R) l = 3) := by unfold Hid; rw [← HCh.out, if_neg (by omega), if_pos (.inl hl1)]
            go_wp2
            go_quiet (fail)
            go_wp2
            go_ret
            exact ⟨endInt hE.out.symm, below_drewN (HM.out.be.alloc HM.out.be.size _) _⟩
          · have hl1' : 1 ≤ line := by omega
            have hd : decide (line < 1) = false := by simpa using hl1'
            have HExt : Hid (∀ w', Calls Tryd.prog 21 #[.agg #[.int .i64 (x.cols : Int), .int .i64 (x.rows : Int), .slice Ax2 vals2.length cx2], .agg #[.int .i64 side, .int .i64 line, .bool over]] w' fun e w'' => e = .returned (.int .i64 (ext x ⟨side, line, over⟩ : Nat)) ∧ Below w'.heap.size w' w'') := fun w' => extent_any ⟨side, line, over⟩ x _ _ _ _ rfl w'
            have hWa : Below wr.heap.size wr (wr.alloc (Obj.cells #[.int .i64 side, .int .i64 line, .bool over] 33)) := (Below.refl _ _).alloc (Nat.le_refl _) _
            have HMa := Lib.hid (HM.out.later hWa)
            have hbn := Blk.new wr 33 #[.int .i64 side, .int .i64 line, .bool over]
            have HBn := Lib.hid hbn
            have hS0 : (wr.alloc (Obj.cells #[.int .i64 side, .int .i64 line, .bool over] 33)).drew.cell? ⟨w1.heap.size, 0, none⟩ = some (.int .i64 (x.cols : Int)) ∧ (wr.alloc (Obj.cells #[.int .i64 side, .int .i64 line, .bool over] 33)).drew.cell? ⟨w1.heap.size, 1, none⟩ = some (.int .i64 (x.rows : Int)) ∧ (wr.alloc (Obj.cells #[.int .i64 side, .int .i64 line, .bool over] 33)).drew.cell? ⟨w1.heap.size, 2, none⟩ = some (.slice Ax2 vals2.length cx2) ∧ (wr.alloc (Obj.cells #[.int .i64 side, .int .i64 line, .bool over] 33)).drew.cell? ⟨wr.heap.size, 0, none⟩ = some (.int .i64 side) ∧ (wr.alloc (Obj.cells #[.int .i64 side, .int .i64 line, .bool over] 33)).drew.cell? ⟨wr.heap.size, 1, none⟩ = some (.int .i64 line) ∧ (wr.alloc (Obj.cells #[.int .i64 side, .int .i64 line, .bool over] 33)).drew.cell? ⟨wr.heap.size, 2, none⟩ = some (.bool over) ∧ Below (wr.alloc (Obj.cells #[.int .i64 side, .int .i64 line, .bool over] 33)).heap.size (wr.alloc (Obj.cells #[.int .i64 side, .int .i64 line, .bool over] 33)) (wr.alloc (Obj.cells #[.int .i64 side, .int .i64 line, .bool over] 33)).drew := ⟨HMa.out.b3.cell 0, HMa.out.b3.cell 1, HMa.out.b3.cell 2, hbn.cell 0, hbn.cell 1, hbn.cell 2, (Below.refl _ _).drew⟩
            have hlt1 := HMa.out.b3.lt
            have hlt2 := hbn.lt
            have HKp : Hid (∀ (w2 w3 : World), (w2.cell? ⟨w1.heap.size, 0, none⟩ = some (.int .i64 (x.cols : Int)) ∧ w2.cell? ⟨w1.heap.size, 1, none⟩ = some (.int .i64 (x.rows : Int)) ∧ w2.cell? ⟨w1.heap.size, 2, none⟩ = some (.slice Ax2 vals2.length cx2) ∧ w2.cell? ⟨wr.heap.size, 0, none⟩ = some (.int .i64 side) ∧ w2.cell? ⟨wr.heap.size, 1, none⟩ = some (.int .i64 line) ∧ w2.cell? ⟨wr.heap.size, 2, none⟩ = some (.bool over) ∧ Below (wr.alloc (Obj.cells #[.int .i64 side, .int .i64 line, .bool over] 33)).heap.size (wr.alloc (Obj.cells #[.int .i64 side, .int .i64 line, .bool over] 33)) w2) → Below w2.heap.size w2 w3 → (w3.cell? ⟨w1.heap.size, 0, none⟩ = some (.int .i64 (x.cols : Int)) ∧ w3.cell? ⟨w1.heap.size, 1, none⟩ = some (.int .i64 (x.rows : Int)) ∧ w3.cell? ⟨w1.heap.size, 2, none⟩ = some (.slice Ax2 vals2.length cx2) ∧ w3.cell? ⟨wr.heap.size, 0, none⟩ = some (.int .i64 side) ∧ w3.cell? ⟨wr.heap.size, 1, none⟩ = some (.int .i64 line) ∧ w3.cell? ⟨wr.heap.size, 2, none⟩ = some (.bool over) ∧ Below (wr.alloc (Obj.cells #[.int .i64 side, .int .i64 line, .bool over] 33)).heap.size (wr.alloc (Obj.cells #[.int .i64 side, .int .i64 line, .bool over] 33)) w3)) := by
              rintro w2 w3 ⟨a0, a1, a2, a3, a4, a5, a6⟩ hb
              have h1 := Nat.lt_of_lt_of_le hlt1 a6.size
              have h2 := Nat.lt_of_lt_of_le hlt2 a6.size
              exact ⟨(hb.cell (p := ⟨w1.heap.size, 0, none⟩) h1).trans a0, (hb.cell (p := ⟨w1.heap.size, 1, none⟩) h1).trans a1, (hb.cell (p := ⟨w1.heap.size, 2, none⟩) h1).trans a2, (hb.cell (p := ⟨wr.heap.size, 0, none⟩) h2).trans a3, (hb.cell (p := ⟨wr.heap.size, 1, none⟩) h2).trans a4, (hb.cell (p := ⟨wr.heap.size, 2, none⟩) h2).trans a5, a6.trans (hb.mono a6.size)⟩
            clear hbn
            go_upto_region 11 with (fail)
            clear d0 d1 d2 hlt1 hlt2
            go_region_held3 (fun w' => w'.cell? ⟨w1.heap.size, 0, none⟩ = some (.int .i64 (x.cols : Int)) ∧ w'.cell? ⟨w1.heap.size, 1, none⟩ = some (.int .i64 (x.rows : Int)) ∧ w'.cell? ⟨w1.heap.size, 2, none⟩ = some (.slice Ax2 vals2.length cx2) ∧ w'.cell? ⟨wr.heap.size, 0, none⟩ = some (.int .i64 side) ∧ w'.cell? ⟨wr.heap.size, 1, none⟩ = some (.int .i64 line) ∧ w'.cell? ⟨wr.heap.size, 2, none⟩ = some (.bool over) ∧ Below (wr.alloc (Obj.cells #[.int .i64 side, .int .i64 line, .bool over] 33)).heap.size (wr.alloc (Obj.cells #[.int .i64 side, .int .i64 line, .bool over] 33)) w')
              (first | exact hS0 | (exact HKp.out _ _ (by first | assumption | exact ⟨by assumption, by assumption, by assumption, by assumption, by assumption, by assumption, by assumption⟩) (by assumption)))
              (first | (go_at_call 21; refine (HExt.out _).mono ?_; rintro e w' ⟨rfl, hbx⟩))
            have hS1 := HKp.out _ _ hS0 hbx
            have hbw : Below wr.heap.size wr w' := hWa.drew.trans (hbx.mono (by simp [World.drew]))
            have HMw := Lib.hid (HM.out.later hbw)
            clear hS0 hbx
            by_cases hx1 : (ext x ⟨side, line, over⟩ : Int) ≤ line
            · have hE : Hid (chkSteps (flatS C R) l = 3) := by unfold Hid; rw [← HCh.out, if_neg (by omega), if_pos (.inr hx1)]
              clear hS1 hbw hWa
              go_wp2
              go_ret
              exact ⟨endInt hE.out.symm, HMw.out.be⟩
            · have hx1' : line < (ext x ⟨side, line, over⟩ : Int) := by omega
              have hE : Hid (chkSteps (foldS x ⟨side, line, over⟩) (l.drop (j + 1)) = chkSteps (flatS C R) l) := by unfold Hid; rw [← HCh.out, if_neg (by omega), if_neg (by omega)]
              have hokf : okStep x ⟨side, line, over⟩ := ⟨by dsimp only; omega, by dsimp only; omega, by dsimp only; omega, by dsimp only; omega⟩
              have hok2 : Hid (okSteps (flatS C R) (l.take (j + 1))) := by unfold Hid; rw [HT.out, okSteps_snoc, HX2.out]; exact ⟨HOk.out, hokf⟩
              have hx2 : Hid (foldAll (flatS C R) (l.take (j + 1)) = foldS x ⟨side, line, over⟩) := by unfold Hid; rw [HT.out, foldAll_snoc, HX2.out]
              have HFold : Hid (Calls Tryd.prog 22 #[.agg #[.int .i64 (x.cols : Int), .int .i64 (x.rows : Int), .slice Ax2 vals2.length cx2], .agg #[.int .i64 side, .int .i64 line, .bool over]] w' (SheetPost (foldS x ⟨side, line, over⟩) w')) := fold_any x ⟨side, line, over⟩ _ vals2 w' HMw.out.pl HSm.out hokf HRm.out
              obtain ⟨a0, a1, a2, a3, a4, a5, a6⟩ := hS1
              have HB3w := Lib.hid HMw.out.b3
              clear a6 hbw hWa hokf
              generalize foldS x ⟨side, line, over⟩ = y at *
              go_wp2_with (go_at_call 22; refine HFold.out.mono ?_; rintro e w3 ⟨v3, vals3, rfl, hpl3, hb3⟩; obtain ⟨A3, c3, e3⟩ := hpl3.out.form; subst e3; have b3 := HB3w.out.below hb3 HB3w.out.lt; have r0 : w3.cell? ⟨w1.heap.size, 0, none⟩ = some (.int .i64 (x.cols : Int)) := b3.cell 0; have r1 : w3.cell? ⟨w1.heap.size, 1, none⟩ = some (.int .i64 (x.rows : Int)) := b3.cell 1; have r2 : w3.cell? ⟨w1.heap.size, 2, none⟩ = some (.slice Ax2 vals2.length cx2) := b3.cell 2; have f0 := b3.frozen 0; have f1 := b3.frozen 1; have f2 := b3.frozen 2; have hz3 := b3.lt; have HPl3 := Lib.hid hpl3; have HB3 := Lib.hid hb3; have HBl3 := Lib.hid b3; clear hpl3 hb3 b3)
              go_roundw
              case rel =>
                refine ⟨j + 1, .slice A3 vals3.length c3, vals3, by omega, by go_num, hok2.out, by rw [hx2.out]; exact hE.out, ?_⟩
                rw [hx2.out]
                have h1 := HM.out.hB
                have hlt := HMw.out.b3.lt
                have h2 := HMw.out.later HB3.out
                refine ⟨?_, ?_, ?_, ?_, h1⟩
                · exact (((h2.b0.far (by simp; omega) _).far (by simp; omega) _).far (by simp; omega) _)
                · have := ((HBl3.out.put 0 (.int .i64 (y.cols : Int))).put 1 (.int .i64 (y.rows : Int))).put 2 (.slice A3 vals3.length c3)
                  simpa using this
                · have h3 := HPl3.out.mono (ok' := fun b => b ≠ w1.heap.size) fun b _ h => by omega
                  exact (((h3.far (p := ⟨w1.heap.size, 0, none⟩) (fun h => h rfl) (.int .i64 (y.cols : Int))).far (p := ⟨w1.heap.size, 1, none⟩) (fun h => h rfl) (.int .i64 (y.rows : Int))).far (p := ⟨w1.heap.size, 2, none⟩) (fun h => h rfl) (.slice A3 vals3.length c3))
                · exact ((h2.be.setCell (p := ⟨w1.heap.size, 0, none⟩) (by simp; omega) _).setCell (p := ⟨w1.heap.size, 1, none⟩) (by simp; omega) _).setCell (p := ⟨w1.heap.size, 2, none⟩) (by simp; omega) _
              case measure => simp [intOf]; omega
    · obtain rfl : j = n := by omega
      have HM := Lib.hid hm
      have HCh := Lib.hid hch
      clear hm hch hok
      go_wp2
      go_ret
      refine ⟨?_, HM.out.be⟩
      have := HCh.out
      rw [List.drop_of_length_le (by rw [HN.out]; exact Nat.le_refl _)] at this
      rw [← this]; rfl
set_option maxHeartbeats 4000000 in
theorem check_any (C R : Int) (v : Value) (l : List Step) (w : World) (hI : Sv w v l) :
    Calls Tryd.prog 10 #[.agg #[.int .i64 C, .int .i64 R, v]] w (ErrPost (chk C R l) w) := by
  by_cases hok : ¬ (C < 1 ∨ 8 < C ∨ R < 1 ∨ 8 < R) ∧ ¬ (32 < C * R ∨ 8 < l.length)
  · obtain ⟨h1, h2⟩ := hok
    have e : chk C R l = chkSteps (flatS C.toNat R.toNat) l := by unfold chk; rw [if_neg h1, if_neg h2]
    rw [e]
    obtain ⟨c, rfl⟩ := Int.eq_ofNat_of_zero_le (show 0 ≤ C by omega)
    obtain ⟨r, rfl⟩ := Int.eq_ofNat_of_zero_le (show 0 ≤ R by omega)
    have h3 : c * r ≤ 32 := by
      have : (c : Int) * (r : Int) ≤ 32 := by omega
      rw [← Int.natCast_mul] at this; omega
    exact check_in c r v l w hI (by omega) (by omega) (by omega) (by omega) h3 (by omega)
  · obtain ⟨Av, cv, ev⟩ := SlM.form hI
    have hcap : l.length ≤ 9223372036854775807 := by
      subst ev
      obtain ⟨_, h1, h2⟩ := SlM.caps hI
      unfold maxLen at h2; omega
    clear hI
    subst ev
    by_cases h1 : C < 1 ∨ 8 < C ∨ R < 1 ∨ 8 < R
    · have hE : Hid (chk C R l = 3) := by unfold Hid chk; rw [if_pos h1]
      clear hok
      generalize l.length = n at *
      generalize chk C R l = z at *
      by_cases a1 : C < 1

      · clear h1
        go_enter Tryd.func10, Tryd.ntmps10
        go_wp2
        go_ret
        exact ⟨endInt hE.out.symm, (Below.refl _ _).alloc (Nat.le_refl _) _⟩
      · by_cases a2 : 8 < C
        · have a1' : 1 ≤ C := by omega
          clear h1 a1
          go_enter Tryd.func10, Tryd.ntmps10
          go_wp2
          go_ret
          exact ⟨endInt hE.out.symm, (Below.refl _ _).alloc (Nat.le_refl _) _⟩
        · by_cases a3 : R < 1
          · have a1' : 1 ≤ C := by omega
            have a2' : C ≤ 8 := by omega
            clear h1 a1 a2
            go_enter Tryd.func10, Tryd.ntmps10
            go_wp2
            go_ret
            exact ⟨endInt hE.out.symm, (Below.refl _ _).alloc (Nat.le_refl _) _⟩
          · have a1' : 1 ≤ C := by omega
            have a2' : C ≤ 8 := by omega
            have a3' : 1 ≤ R := by omega
            have a4 : 8 < R := by omega
            clear h1 a1 a2 a3
            go_enter Tryd.func10, Tryd.ntmps10
            go_wp2
            go_ret
            exact ⟨endInt hE.out.symm, (Below.refl _ _).alloc (Nat.le_refl _) _⟩
    · have h2 : 32 < C * R ∨ 8 < l.length := by
        by_cases h2 : 32 < C * R ∨ 8 < l.length
        · exact h2
        · exact absurd ⟨h1, h2⟩ hok
      have hE : Hid (chk C R l = 2) := by unfold Hid chk; rw [if_neg h1, if_pos h2]
      have a1 : 1 ≤ C := by omega
      have a2 : C ≤ 8 := by omega
      have a3 : 1 ≤ R := by omega
      have a4 : R ≤ 8 := by omega
      have m0 : 0 ≤ C * R := Int.mul_nonneg (by omega) (by omega)
      have m1 : C * R ≤ 8 * 8 := Int.mul_le_mul a2 a4 (by omega) (by omega)
      clear hok h1
      generalize l.length = n at *
      generalize chk C R l = z at *
      by_cases a5 : 32 < C * R
      · clear h2
        go_enter Tryd.func10, Tryd.ntmps10
        go_wp2
        go_ret
        exact ⟨endInt hE.out.symm, (Below.refl _ _).alloc (Nat.le_refl _) _⟩
      · have a6 : 8 < (n : Int) := by omega
        have a5' : C * R ≤ 32 := by omega
        clear h2 a5
        go_enter Tryd.func10, Tryd.ntmps10
        go_wp2
        go_ret
        exact ⟨endInt hE.out.symm, (Below.refl _ _).alloc (Nat.le_refl _) _⟩
end Go.Proofs.YtjmanooedgfbaaaDoor
