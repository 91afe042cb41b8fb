/- The walk of Print: the text of a layout. -/
import Derived.Test.YtjmanooedgfbaaaDoorPages
import Derived.Test.YtjmanooedgfbaaaDoorBuilder
import Derived.Test.YtjmanooedgfbaaaDoorLaid
namespace Go.Proofs.YtjmanooedgfbaaaDoor
open Go.RowKit
/-- A builder in block b of the call from block B on, holding l. -/
def Bx (B b : Nat) (l : List UInt8) (w : World) : Prop := Lib.IsBuilder 45 5 B b (Lib.byteCells l) w
theorem byteCells_append (a b : List UInt8) : Lib.byteCells (a ++ b) = Lib.byteCells a ++ Lib.byteCells b := by simp [Lib.byteCells]
theorem strCells_of (l : List UInt8) : Lib.strCells ⟨l.toArray⟩ = Lib.byteCells l := by simp [Lib.strCells, Lib.byteCells]
theorem bx_new (w : World) : Bx w.heap.size w.heap.size [] (w.alloc (.cells #[.pointer none, .slice none 0 0] 45)) := by
  have h := Blk.new w 45 #[.pointer none, .slice none 0 0]
  exact .inl ⟨Nat.le_refl _, .slice none 0 0, h, ⟨rfl, .inl ⟨rfl, rfl⟩⟩, by simp [Value.ownBlock]⟩
theorem bx_write {B b : Nat} {l : List UInt8} {w : World} (h : Bx B b l w) (t : List UInt8) (hl : l.length + t.length ≤ 10000000) (hB : B ≤ w.heap.size) :
    Calls Tryd.prog 11 #[.pointer (some ⟨b, 0, none⟩), .string ⟨t.toArray⟩] w fun e w' => e = .returned (.tuple #[.int .i64 (t.length : Nat), .nilIface]) ∧ (Bx B b (l ++ t) w' ∧ Below B w w') ∧ KeepB b w w' := by
  refine (Builder_WriteString B b _ ⟨t.toArray⟩ w h ?_ hB).mono ?_
  · rw [Lib.byteCells_length]; show l.length + t.toArray.size ≤ _; simp; omega
  · rintro e w' ⟨rfl, ⟨h1, h2⟩, h3⟩
    refine ⟨?_, ⟨?_, h2⟩, h3⟩
    · rw [show (⟨t.toArray⟩ : ByteArray).size = t.length by show t.toArray.size = _; simp]
    · rw [strCells_of, ← byteCells_append] at h1; exact .inr h1
theorem bx_byte {B b : Nat} {l : List UInt8} {w : World} (h : Bx B b l w) (c : UInt8) (v : Int) (hv : v = (c.toNat : Int)) (hl : l.length ≤ 10000000) (hB : B ≤ w.heap.size) :
    Calls Tryd.prog 13 #[.pointer (some ⟨b, 0, none⟩), .int .u8 v] w fun e w' => e = .returned .nilIface ∧ (Bx B b (l ++ [c]) w' ∧ Below B w w') ∧ KeepB b w w' := by
  subst hv
  refine (Builder_WriteByte B b _ _ w h ?_ hB).mono ?_
  · rw [Lib.byteCells_length]; omega
  · rintro e w' ⟨rfl, ⟨h1, h2⟩, h3⟩
    refine ⟨rfl, ⟨?_, h2⟩, h3⟩
    rw [show [Value.int .u8 (c.toNat : Int)] = Lib.byteCells [c] from rfl, ← byteCells_append] at h1
    exact .inr h1
theorem bx_later {B b : Nat} {l : List UInt8} {w w' : World} (h : Bx B b l w) (hb : Below w.heap.size w w') : Bx B b l w' := by
  rcases h with h | h
  · obtain ⟨hB, v, hbk, hown, hne⟩ := h
    exact .inl ⟨hB, v, (hb.block _ (Lib.BuilderAt.lt ⟨hB, v, hbk, hown, hne⟩)).trans hbk, own_below hown hb, hne⟩
  · obtain ⟨hB, v, hbk, hown, hne⟩ := h
    exact .inr ⟨hB, v, (hb.block _ (Lib.BuilderAt.lt ⟨hB, v, hbk, hown, hne⟩)).trans hbk, own_below hown hb, hne⟩
theorem bx_lt {B b : Nat} {l : List UInt8} {w : World} (h : Bx B b l w) : b < w.heap.size := by
  rcases h with h | h <;> exact Lib.BuilderAt.lt h
/-! The text. -/
def sideByte (s : Int) : UInt8 := if s = 0 then 76 else if s = 1 then 82 else if s = 2 then 84 else 66
def dgB (n : Nat) : UInt8 := UInt8.ofNat (48 + n)
theorem digits_one {n : Nat} (h : n < 10) : Lib.decDigits n = [dgB n] := Lib.decDigits_one h
def stepText (f : Step) : List UInt8 := [32, sideByte f.side, dgB f.line.toNat, if f.over then 111 else 117]
def prText (C R : Nat) (l : List Step) : List UInt8 := [dgB C, 120, dgB R] ++ l.flatMap stepText
theorem prText_snoc (C R : Nat) (l : List Step) (f : Step) : prText C R (l ++ [f]) = prText C R l ++ stepText f := by simp [prText]
theorem step_at {C R : Nat} {l : List Step} (hg : Good C R l) {j : Nat} (hj : j < l.length) : 0 ≤ (st l j).side ∧ (st l j).side ≤ 3 ∧ 1 ≤ (st l j).line ∧ (st l j).line < 8 := by
  have h := okSteps_take hg.ok (j + 1)
  rw [take_step l hj, okSteps_snoc] at h
  have hs := small_all h.1 (C := 8) (R := 8) ⟨hg.c1, hg.c8, hg.r1, hg.r8⟩
  obtain ⟨a, b, c, d⟩ := h.2
  refine ⟨a, b, c, ?_⟩
  have : ext (foldAll (flatS C R) (l.take j)) (st l j) ≤ 8 := by
    unfold ext; split
    · exact hs.c2
    · exact hs.r2
  omega
theorem flat_len (l : List Step) : (l.flatMap stepText).length = 4 * l.length := by
  induction l with
  | nil => rfl
  | cons f l ih => simp only [List.flatMap_cons, List.length_append, List.length_cons, ih, stepText, List.length_nil]; omega
theorem prText_len (C R : Nat) (l : List Step) : (prText C R l).length = 3 + 4 * l.length := by
  unfold prText; rw [List.length_append, flat_len]; rfl
theorem app3 (a b c : UInt8) : ((⟨#[a]⟩ ++ ⟨#[b]⟩ ++ ⟨#[c]⟩ : ByteArray)) = ⟨[a, b, c].toArray⟩ := by
  apply ByteArray.ext; simp
def PrintPost (t : List UInt8) (w : World) (e : Ending) (w' : World) : Prop := e = .returned (.tuple #[.string ⟨t.toArray⟩, .int .i64 0]) ∧ Below w.heap.size w w'
set_option maxRecDepth 100000 in
set_option maxHeartbeats 8000000 in
theorem print_ok (C R : Nat) (v : Value) (l : List Step) (w : World) (hI : Sv w v l) (hg : Good C R l) :
    Calls Tryd.prog 5 #[.agg #[.int .i64 (C : Int), .int .i64 (R : Int), v]] w (PrintPost (prText C R l) w) := by
  have HI := Lib.hid hI
  obtain ⟨Av, cv, ev⟩ := SlM.form HI.out
  have HChk : Hid (∀ w', Below w.heap.size w w' → Calls Tryd.prog 10 #[.agg #[.int .i64 (C : Int), .int .i64 (R : Int), v]] w' fun e w'' => e = .returned (.int .i64 0) ∧ Below w'.heap.size w' w'') := fun w' hb => by
    have := check_any (C : Int) (R : Int) v l w' (SlM.later HI.out hb)
    rw [good_chk hg] at this; exact this
  have HG := Lib.hid hg
  have HP : Hid (∀ e w', PrintPost (prText C R l) w e w' = (e = .returned (.tuple #[.string ⟨(prText C R l).toArray⟩, .int .i64 0]) ∧ Below w.heap.size w w')) := fun _ _ => rfl
  generalize PrintPost (prText C R l) w = Post at *
  have hC := hg.c8
  have hR := hg.r8
  have hn := hg.n8
  generalize hlen : l.length = n at *
  have HN := Lib.hid hlen
  have hb0 := Lib.hid ((Below.refl w.heap.size w).alloc (Nat.le_refl _) (Obj.cells #[.int .i64 (C : Int), .int .i64 (R : Int), v] 24))
  have hbl0 := Lib.hid (Blk.new w 24 #[.int .i64 (C : Int), .int .i64 (R : Int), v])
  subst ev
  clear hI hg hlen
  go_enter Tryd.func5, Tryd.ntmps5
  go_wp2_with fail
  refine (HChk.out _ hb0.out).mono ?_; rintro e w1 ⟨rfl, hb1⟩
  have HX0 := Lib.hid (hbl0.out.below hb1 hbl0.out.lt)
  have HBe := Lib.hid (hb0.out.trans (hb1.mono hb0.out.size))
  have c0 : w1.cell? ⟨w.heap.size, 0, none⟩ = some (.int .i64 (C : Int)) := HX0.out.cell 0
  have c1 : w1.cell? ⟨w.heap.size, 1, none⟩ = some (.int .i64 (R : Int)) := HX0.out.cell 1
  have hz := HX0.out.lt
  clear hb1
  go_upto_region 5 with (fail)
  have HIt : Hid (∀ (k : Nat) w', k < 10 → Calls Tryd.prog 12 #[.int .i64 (k : Int)] w' fun e w'' => e = .returned (.string ⟨#[dgB k]⟩) ∧ w'' = w') := fun k w' hk => by
    have := strconv_Itoa_small k (by omega) w'
    rw [digits_one hk] at this; exact this
  have HB0 := Lib.hid (bx_new w1)
  have HX2 : Hid (∀ w2, Below w1.heap.size w1 w2 → w2.cell? ⟨w.heap.size, 2, none⟩ = some (.slice Av n cv)) := fun w2 h => (HX0.out.below h HX0.out.lt).cell 2
  have HWs : Hid (∀ X : World, Bx w1.heap.size w1.heap.size [] X → w1.heap.size ≤ X.heap.size → Calls Tryd.prog 11 #[.pointer (some ⟨w1.heap.size, 0, none⟩), .string (⟨#[dgB C]⟩ ++ ⟨#[120]⟩ ++ ⟨#[dgB R]⟩)] X fun e w' => e = .returned (.tuple #[.int .i64 3, .nilIface]) ∧ Bx w1.heap.size w1.heap.size [dgB C, 120, dgB R] w' ∧ Below w1.heap.size X w') := by
    intro X hX hs
    rw [app3]
    exact (bx_write hX [dgB C, 120, dgB R] (by simp) hs).mono fun e w' h => ⟨h.1, h.2.1⟩
  go_cut [] (fun wx => Bx w1.heap.size w1.heap.size [dgB C, 120, dgB R] wx ∧ Below w1.heap.size w1 wx)
  case first =>
    go_region_law (first
      | (go_simp; go_at_call 11; refine (HWs.out _ (bx_later HB0.out (Below.refl _ _).drew) (by simp)).mono ?_; rintro e w2 ⟨rfl, hbx, hb2⟩; have HBx := Lib.hid hbx; have HB2 := Lib.hid ((((Below.refl w1.heap.size w1).alloc (Nat.le_refl _) (Obj.cells #[.pointer none, .slice none 0 0] 45)).drew).trans hb2); have c2 := HX2.out _ HB2.out; clear hbx hb2)
      | (go_simp; go_at_call 12; refine (HIt.out _ _ (by omega)).mono ?_; rintro e w' ⟨rfl, rfl⟩))
    all_goals
      go_wp2
      go_meet
      exact ⟨HBx.out, HB2.out⟩
  case rest =>
  obtain ⟨hbx, hb2⟩ := hcut
  clear c0 c1
  have c2 := HX2.out _ hb2
  have HBx := Lib.hid hbx
  have HB2 := Lib.hid hb2
  clear hbx hb2
  go_wp2
  clear c2
  go_loopw [25] (fun vj wr => ∃ j : Nat, j ≤ n ∧ vj = .int .i64 j ∧ Bx w1.heap.size w1.heap.size (prText C R (l.take j)) wr ∧ Below w1.heap.size w1 wr) (fun j _ => n - (intOf j).toNat)
  case atStart => exact ⟨0, by omega, rfl, HBx.out, HB2.out⟩
  case round =>
    obtain ⟨j, hj, rfl, hbx, hb⟩ := hrel
    by_cases hlt : j < n
    · obtain ⟨bS, oS, cS, eS, hbS, hcapS, _, hcS⟩ := (HI.out).cells3 (by rw [HN.out]; omega)
      obtain ⟨g0, g1, g2⟩ := hcS j (by rw [HN.out]; exact hlt)
      rw [HN.out] at eS hcapS
      injection eS with eA _ eC
      subst eA; subst eC
      have hbw := HBe.out.trans (hb.mono (by omega))
      have d0 := (hbw.cell (p := ⟨bS, oS + j * 3, none⟩) hbS).trans g0
      have d1 := (hbw.cell (p := ⟨bS, oS + j * 3 + 1, none⟩) hbS).trans g1
      have d2 := (hbw.cell (p := ⟨bS, oS + j * 3 + 2, none⟩) hbS).trans g2
      obtain ⟨s0, s1, s2, s3⟩ := step_at HG.out (j := j) (by rw [HN.out]; exact hlt)
      have HT : Hid (prText C R (l.take (j + 1)) = prText C R (l.take j) ++ stepText (st l j)) := by unfold Hid; rw [take_step l (by rw [HN.out]; exact hlt), prText_snoc]
      have hpl : (prText C R (l.take j)).length ≤ 1000 := by rw [prText_len, List.length_take]; omega
      have HStep : Hid (stepText (st l j) = [32, sideByte (st l j).side, dgB (st l j).line.toNat, if (st l j).over then 111 else 117]) := rfl
      clear g0 g1 g2 hcS hbw
      generalize prText C R (l.take j) = t0 at *
      generalize stepText (st l j) = tx at *
      generalize st l j = f at *
      obtain ⟨side, line, over⟩ := f
      dsimp only at d0 d1 d2 s0 s1 s2 s3
      obtain ⟨ln, rfl⟩ := Int.eq_ofNat_of_zero_le (show 0 ≤ line by omega)
      have hx4 : side = 0 ∨ side = 1 ∨ side = 2 ∨ side = 3 := by omega
      have hwa : Below wr.heap.size wr (wr.alloc (Obj.cells #[.int .i64 side, .int .i64 (ln : Int), .bool over] 33)) := (Below.refl _ _).alloc (Nat.le_refl _) _
      have H0 := Lib.hid (bx_later hbx hwa)
      have hlt1 := bx_lt hbx
      have HK : Hid (∀ w', Below w1.heap.size (wr.alloc (Obj.cells #[.int .i64 side, .int .i64 (ln : Int), .bool over] 33)) w' → w1.heap.size ≤ w'.heap.size ∧ Below w1.heap.size w1 w') := fun w' h => ⟨by have := h.size; simp at this; omega, hb.trans ((hwa.mono (by omega)).trans h)⟩
      have HSb : Hid (tx = [32, sideByte side, dgB ln, if over then 111 else 117]) := HStep.out
      have HQ := Lib.hid (Blk.new wr 33 #[.int .i64 side, .int .i64 (ln : Int), .bool over])
      clear hbx hb hwa HStep
      rcases hx4 with rfl | rfl | rfl | rfl
      all_goals
        cases over
        all_goals
          go_wp2_with (first
            | (go_at_call 13; first
                | (refine (bx_byte H3.out 111 _ (by rfl) (by simp; omega) K3.1).mono ?_; rintro e w6 ⟨rfl, ⟨hbx6, hb6⟩, kp6⟩; have H4 := Lib.hid hbx6; have B4 := Lib.hid (B3.out.trans hb6); clear hbx6 hb6)
                | (refine (bx_byte H3.out 117 _ (by rfl) (by simp; omega) K3.1).mono ?_; rintro e w6 ⟨rfl, ⟨hbx6, hb6⟩, kp6⟩; have H4 := Lib.hid hbx6; have B4 := Lib.hid (B3.out.trans hb6); clear hbx6 hb6)
                | (refine (bx_byte H1.out 76 _ (by rfl) (by simp; omega) K1.1).mono ?_; rintro e w4 ⟨rfl, ⟨hbx4, hb4⟩, kp4⟩; have H2 := Lib.hid hbx4; have B2 := Lib.hid (B1.out.trans hb4); have K2 := HK.out _ B2.out; have q4 := kp4 _ _ _ Q1.out (by decide) (by omega); have Q2 := Lib.hid q4; have f1 : w4.cell? ⟨wr.heap.size, 1, none⟩ = some (.int .i64 (ln : Int)) := q4.cell 1; clear hbx4 hb4 kp4 q4)
                | (refine (bx_byte H1.out 82 _ (by rfl) (by simp; omega) K1.1).mono ?_; rintro e w4 ⟨rfl, ⟨hbx4, hb4⟩, kp4⟩; have H2 := Lib.hid hbx4; have B2 := Lib.hid (B1.out.trans hb4); have K2 := HK.out _ B2.out; have q4 := kp4 _ _ _ Q1.out (by decide) (by omega); have Q2 := Lib.hid q4; have f1 : w4.cell? ⟨wr.heap.size, 1, none⟩ = some (.int .i64 (ln : Int)) := q4.cell 1; clear hbx4 hb4 kp4 q4)
                | (refine (bx_byte H1.out 84 _ (by rfl) (by simp; omega) K1.1).mono ?_; rintro e w4 ⟨rfl, ⟨hbx4, hb4⟩, kp4⟩; have H2 := Lib.hid hbx4; have B2 := Lib.hid (B1.out.trans hb4); have K2 := HK.out _ B2.out; have q4 := kp4 _ _ _ Q1.out (by decide) (by omega); have Q2 := Lib.hid q4; have f1 : w4.cell? ⟨wr.heap.size, 1, none⟩ = some (.int .i64 (ln : Int)) := q4.cell 1; clear hbx4 hb4 kp4 q4)
                | (refine (bx_byte H1.out 66 _ (by rfl) (by simp; omega) K1.1).mono ?_; rintro e w4 ⟨rfl, ⟨hbx4, hb4⟩, kp4⟩; have H2 := Lib.hid hbx4; have B2 := Lib.hid (B1.out.trans hb4); have K2 := HK.out _ B2.out; have q4 := kp4 _ _ _ Q1.out (by decide) (by omega); have Q2 := Lib.hid q4; have f1 : w4.cell? ⟨wr.heap.size, 1, none⟩ = some (.int .i64 (ln : Int)) := q4.cell 1; clear hbx4 hb4 kp4 q4)
                | (refine (bx_byte H0.out 32 _ (by rfl) (by omega) (by simp; omega)).mono ?_; rintro e w3 ⟨rfl, ⟨hbx3, hb3⟩, kp3⟩; have H1 := Lib.hid hbx3; have B1 := Lib.hid hb3; have K1 := HK.out _ B1.out; have q3 := kp3 _ _ _ HQ.out (by decide) (by omega); have Q1 := Lib.hid q3; have f0 : w3.cell? ⟨wr.heap.size, 0, none⟩ = _ := q3.cell 0; simp only [List.getElem?_toArray, List.getElem?_cons_zero] at f0; clear hbx3 hb3 kp3 q3))
            | (go_at_call 12; refine (HIt.out _ _ (by omega)).mono ?_; rintro e w' ⟨rfl, rfl⟩)
            | (go_at_call 11; refine (bx_write H2.out [dgB ln] (by simp; omega) K2.1).mono ?_; rintro e w5 ⟨rfl, ⟨hbx5, hb5⟩, kp5⟩; have H3 := Lib.hid hbx5; have B3 := Lib.hid (B2.out.trans hb5); have K3 := HK.out _ B3.out; have q5 := kp5 _ _ _ Q2.out (by decide) (by omega); have f2 : w5.cell? ⟨wr.heap.size, 2, none⟩ = _ := q5.cell 2; simp only [List.getElem?_toArray, List.getElem?_cons_succ, List.getElem?_cons_zero] at f2; clear hbx5 hb5 kp5 q5))
          refine ⟨⟨j + 1, by omega, by go_num, ?_, (HK.out _ B4.out).2⟩, by simp [intOf]; omega⟩
          rw [HT.out, HSb.out]
          have h := H4.out
          simp only [List.append_assoc, List.cons_append, List.nil_append] at h
          exact h
    · obtain rfl : j = n := by omega
      rw [List.take_of_length_le (by rw [HN.out]; exact Nat.le_refl _)] at hbx
      have HBx := Lib.hid hbx
      have HBw := Lib.hid hb
      have hlt1 := bx_lt hbx
      clear hbx hb
      go_wp2_with (go_at_call 14; refine (Builder_String_any w1.heap.size _ _ _ HBx.out (by omega)).mono ?_; rintro e w3 ⟨rfl, hb3⟩; have HB3 := Lib.hid hb3; clear hb3)
      rw [HP.out]
      exact ⟨rfl, HBe.out.trans ((HBw.out.trans HB3.out).mono (by omega))⟩
/-- The small layout that the laws fold first. -/
def onceL : List Step := [⟨0, 1, true⟩]
theorem good_once : Good 2 1 onceL := ⟨by omega, by omega, by omega, by omega, by omega, by decide, ⟨by decide, by decide, by decide, by decide⟩, trivial⟩
theorem whole_once : whole 2 1 onceL := ⟨by decide, by decide⟩
set_option maxHeartbeats 1000000 in
theorem once_any (w : World) : Calls Tryd.prog 9 #[] w fun e w' => ∃ v, e = .returned (.agg #[.int .i64 2, .int .i64 1, v]) ∧ Sv w' v onceL ∧ Below w.heap.size w w' := by
  go_enter Tryd.func9, Tryd.ntmps9
  go_wp2
  refine bodyPost_ret (v := .agg #[.int .i64 2, .int .i64 1, .slice (some ⟨w.heap.size + 1, 0, none⟩) 1 1]) (by simp [results, Tryd.results9, go_sem]) rfl ⟨_, rfl, ?_, ?_⟩
  · refine ⟨_, 1, rfl, Nat.le_refl _, by unfold maxLen; omega, fun _ => ⟨w.heap.size + 1, 0, rfl, trivial, by simp, fun k u hu => ?_⟩⟩
    have := news_new (w.alloc (.cells #[.int .i64 2, .int .i64 1, .slice (some ⟨w.heap.size + 1, 0, none⟩) 1 1] 24)) 33 [.int .i64 0, .int .i64 1, .bool true] (w.heap.size + 1) (by simp) k u (by simpa [scells, scell, onceL] using hu)
    rw [add_plain] at this
    exact this
  · exact ((Below.refl _ _).alloc (Nat.le_refl _) _).alloc (by simp) _
theorem end_once' : endPile 2 1 onceL = [⟨0, 0, true, false⟩, ⟨1, 0, false, false⟩] := by decide
theorem text_once : prText 2 1 onceL = [50, 120, 49, 32, 76, 49, 111] := by decide
theorem pages_once' : pagesOf 2 (turnOf (lastSide onceL)) (endPile 2 1 onceL) = [⟨true, 1, 0, 0⟩, ⟨false, 0, 0, 0⟩, ⟨false, 1, 0, 0⟩, ⟨true, 0, 0, 0⟩] := by rw [end_once']; rfl
set_option maxRecDepth 100000 in
set_option maxHeartbeats 4000000 in
theorem folds_any (w : World) : Calls Tryd.prog 4 #[] w fun e w' => e = .returned (.bool true) ∧ Below w.heap.size w w' := by
  have HPg : Hid (∀ (v : Value) (w : World), Sv w v onceL → Calls Tryd.prog 8 #[.agg #[.int .i64 2, .int .i64 1, v]] w fun e w' => ∃ g cap, e = .returned (.tuple #[.slice (some ⟨g, 0, none⟩) 4 cap, .int .i64 0]) ∧ w'.cell? ⟨g, 0, none⟩ = some (.bool true) ∧ g < w'.heap.size ∧ 4 ≤ cap ∧ Below w.heap.size w w') := by
    intro v w hv
    refine (pages_ok 2 1 v onceL w hv good_once whole_once).mono ?_
    rintro e w' ⟨v', rfl, ho, hb⟩
    rw [pages_once'] at ho
    obtain ⟨g, cap, rfl, _, hlt⟩ := ho.form (by decide)
    have hcap := (SlM.caps (SlM.of_own ho)).2.1
    exact ⟨g, cap, rfl, ho.cellAt 0 (by decide), hlt, hcap, hb⟩
  have HPr : Hid (∀ (v : Value) (w : World), Sv w v onceL → Calls Tryd.prog 5 #[.agg #[.int .i64 2, .int .i64 1, v]] w fun e w' => e = .returned (.tuple #[.string ⟨#[50, 120, 49, 32, 76, 49, 111]⟩, .int .i64 0]) ∧ Below w.heap.size w w') := by
    intro v w hv
    have h := print_ok 2 1 v onceL w hv good_once
    rw [text_once] at h; exact h
  go_enter Tryd.func4, Tryd.ntmps4
  go_wp2_with fail
  refine (once_any _).mono ?_; rintro e w1 ⟨v1, rfl, hs1, hb1⟩
  have HS1 := Lib.hid hs1
  have HB1 := Lib.hid hb1
  clear hs1 hb1
  go_wp2_with fail
  refine (HPg.out _ _ HS1.out).mono ?_; rintro e w2 ⟨g, cap, rfl, hc2, hg2, hcap, hb2⟩
  have HC2 := Lib.hid hc2
  have HB2 := Lib.hid (HB1.out.trans (hb2.mono HB1.out.size))
  clear hb2 hc2
  go_wp2_with fail
  refine (once_any _).mono ?_; rintro e w3 ⟨v3, rfl, hs3, hb3⟩
  have HS3 := Lib.hid hs3
  have HB3 := Lib.hid hb3
  clear hs3 hb3
  go_wp2_with fail
  refine (HPr.out _ _ HS3.out).mono ?_; rintro e w4 ⟨rfl, hb4⟩
  have hb34 := HB3.out.trans (hb4.mono HB3.out.size)
  have c4 : w4.cell? ⟨g, 0, none⟩ = some (.bool true) := (hb34.cell (p := ⟨g, 0, none⟩) hg2).trans HC2.out
  have HB4 := Lib.hid (HB2.out.trans (hb34.mono HB2.out.size))
  clear hb4 hb34
  go_wp2
  go_ret
  exact ⟨rfl, HB4.out⟩
end Go.Proofs.YtjmanooedgfbaaaDoor
