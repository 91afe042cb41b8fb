/- The walk of FoldTextRoundTrip. -/
import Derived.Test.YtjmanooedgfbaaaDoorFtParse
import Derived.Deep.DeepMust
namespace Go.Proofs.YtjmanooedgfbaaaDoor
open Go.RowKit
set_option maxRecDepth 100000 in
set_option maxHeartbeats 4000000 in
theorem equal_steps (va vb : Value) (l : List Step) (w : World) (ha : Sv w va l) (hb : Sv w vb l) (hn : l.length ≤ 100000) :
    Calls Tryd.prog 7 #[va, vb] w fun e w' => e = .returned (.bool true) ∧ Below w.heap.size w w' := by
  have HA := Lib.hid ha
  have HB := Lib.hid hb
  obtain ⟨Aa, ca, eva⟩ := SlM.form ha
  obtain ⟨Ab, cb, evb⟩ := SlM.form hb
  clear ha hb
  generalize hlen : l.length = n at *
  have HN := Lib.hid hlen
  clear hlen
  subst eva evb
  go_enter Tryd.func7, Tryd.ntmps7
  go_wp2
  go_loopw [13] (fun vi wr => ∃ i : Nat, i ≤ n ∧ vi = .int .i64 i ∧ ∃ k, wr = w.drewN k) (fun i _ => n - (intOf i).toNat)
  case atStart => exact ⟨0, by omega, rfl, 0, rfl⟩
  case round =>
    obtain ⟨i, hi, rfl, k, rfl⟩ := hrel
    by_cases hlt : i < n
    · obtain ⟨b1, o1, c1, ev1, hl1, _, _, h1⟩ := Sv.cells3 HA.out (by rw [HN.out]; omega)
      obtain ⟨b2, o2, c2, ev2, hl2, _, _, h2⟩ := Sv.cells3 HB.out (by rw [HN.out]; omega)
      injection ev1 with e1 e1' e1''
      injection ev2 with e2 e2' e2''
      clear e1' e2'
      subst e1 e1'' e2 e2''
      obtain ⟨p0, p1, p2⟩ := h1 i (by rw [HN.out]; exact hlt)
      obtain ⟨q0, q1, q2⟩ := h2 i (by rw [HN.out]; exact hlt)
      generalize st l i = x at *
      clear h1 h2
      obtain ⟨xs, xl, xo⟩ := x
      dsimp only at p0 p1 p2 q0 q1 q2
      have hne : ∀ W, (binOp .neq 33 (.agg #[.int .i64 xs, .int .i64 xl, .bool xo]) (.agg #[.int .i64 xs, .int .i64 xl, .bool xo])).run Tryd.prog W = .ok (.bool false) W := fun W => by
        simp [go_sem]
      go_wp2
      go_region
      go_wp2
      go_roundw
      case rel => exact ⟨i + 1, by omega, by go_num, k + 1, rfl⟩
      case measure => simp [intOf]; omega
    · obtain rfl : i = n := by omega
      go_wp2
      go_ret
      exact ⟨rfl, below_drewN (Below.refl _ w) k⟩
def PrintR (C R : Int) (l : List Step) (w : World) (e : Ending) (w' : World) : Prop := ((chk C R l = 0 ∧ e = .returned (.tuple #[.string ⟨(prText C.toNat R.toNat l).toArray⟩, .int .i64 0])) ∨ (chk C R l ≠ 0 ∧ e = .returned (.tuple #[.string ⟨#[]⟩, .int .i64 (chk C R l)]))) ∧ Below w.heap.size w w'
set_option maxHeartbeats 4000000 in
theorem print_any (C R : Int) (v : Value) (l : List Step) (w : World) (hI : Sv w v l) :
    Calls Tryd.prog 5 #[.agg #[.int .i64 C, .int .i64 R, v]] w (PrintR C R l w) := by
  by_cases hz : chk C R l = 0
  · obtain ⟨c, r, rfl, rfl, hg⟩ := chk_zero hz
    exact (print_ok c r v l w hI hg).mono fun e w' ⟨h1, h2⟩ => ⟨.inl ⟨hz, h1⟩, h2⟩
  · have hb0 := (Below.refl w.heap.size w).alloc (Nat.le_refl _) (Obj.cells #[.int .i64 C, .int .i64 R, v] 24)
    have HB0 := Lib.hid hb0
    have HChk := Lib.hid (check_any C R v l _ (SlM.later hI hb0))
    have HP : Hid (∀ e w', PrintR C R l w e w' = (((chk C R l = 0 ∧ e = .returned (.tuple #[.string ⟨(prText C.toNat R.toNat l).toArray⟩, .int .i64 0])) ∨ (chk C R l ≠ 0 ∧ e = .returned (.tuple #[.string ⟨#[]⟩, .int .i64 (chk C R l)]))) ∧ Below w.heap.size w w')) := fun _ _ => rfl
    generalize PrintR C R l w = Post at *
    obtain ⟨Av, cv, rfl⟩ := SlM.form hI
    generalize chk C R l = z at *
    generalize l.length = n at *
    clear hI hb0
    have gz : (z != 0) = true := by simpa using hz
    go_enter Tryd.func5, Tryd.ntmps5
    go_wp2_with fail
    refine HChk.out.mono ?_
    rintro e w1 ⟨rfl, hb1⟩
    have HB1 := Lib.hid (HB0.out.trans (hb1.mono HB0.out.size))
    clear hb1
    go_wp2_with fail
    rw [HP.out]
    exact ⟨.inr ⟨hz, rfl⟩, HB1.out⟩
theorem parse_err {t : List UInt8} {e : Int} (h : parseT t = .err e) : e ≠ 0 := by
  unfold parseT parseW at h
  split at h
  · cases h
  split at h
  · cases h
  split at h
  · split at h
    · cases h
    split at h
    · rename_i hc
      cases h
      exact hc
    · cases h
  · cases h
set_option maxRecDepth 100000 in
set_option maxHeartbeats 16000000 in
theorem text_rt (C R : Int) (v : Value) (l : List Step) (t : ByteArray) (m : Int) (w : World) (hI : Sv w v l) (ht : t.size < 4294967281) (hm : w.cell? ⟨0, 0, none⟩ = some (.int .i64 m)) :
    Calls Tryd.prog 3 #[.agg #[.int .i64 C, .int .i64 R, v], .string t] w fun e w' => e = .returned (.bool true) ∧ Below w.heap.size w w' := by
  have hw0 : 0 < w.heap.size := by
    rcases Nat.eq_zero_or_pos w.heap.size with h | h
    · simp [World.cell?, Array.getElem?_eq_none (show w.heap.size ≤ 0 by omega)] at hm
    · exact h
  have HF := Lib.hid folds_any
  have HPa : Hid (∀ (t : ByteArray) (W : World), Below w.heap.size w W → t.size < 4294967281 → Calls Tryd.prog 6 #[.string t] W (ParseR (parseT t.data.toList) W)) := fun t W hW hs => parse_any t m W hs ((hW.cell (p := ⟨0, 0, none⟩) hw0).trans hm)
  have HPr : Hid (∀ (C R : Int) (v : Value) (l : List Step) (W : World), Sv W v l → Calls Tryd.prog 5 #[.agg #[.int .i64 C, .int .i64 R, v]] W (PrintR C R l W)) := fun C R v l W h => print_any C R v l W h
  have HI := Lib.hid hI
  have hb0 := Lib.hid ((Below.refl w.heap.size w).alloc (Nat.le_refl _) (Obj.cells #[.int .i64 C, .int .i64 R, v] 24))
  have hbl0 := Lib.hid (Blk.new w 24 #[.int .i64 C, .int .i64 R, v])
  obtain ⟨Av, cv, ev⟩ := SlM.form hI
  clear hI hm
  have hln : 0 ≤ l.length := Nat.zero_le _
  generalize hlen : l.length = n at *
  have HN := Lib.hid hlen
  subst ev
  clear hlen
  go_enter Tryd.func3, Tryd.ntmps3
  go_wp2_with fail
  refine (HF.out _).mono ?_; rintro e w1 ⟨rfl, hb1⟩
  have hx0 := hbl0.out.below hb1 hbl0.out.lt
  have HB1 := Lib.hid (hb0.out.trans (hb1.mono hb0.out.size))
  have HX1 : Hid (S3 w1 w.heap.size (.int .i64 C) (.int .i64 R) (.slice Av n cv)) := hx0
  have c0 := s3_cell0 HX1.out
  have c1 := s3_cell1 HX1.out
  have c2 := s3_cell2 HX1.out
  clear hx0 hb1
  go_wp2_with fail
  refine (HPr.out C R (.slice Av n cv) l _ (SlM.later HI.out HB1.out)).mono ?_
  rintro e w2 ⟨hr, hb2⟩
  have HB2 := Lib.hid (HB1.out.trans (hb2.mono HB1.out.size))
  have HX2 : Hid (S3 w2 w.heap.size (.int .i64 C) (.int .i64 R) (.slice Av n cv)) := Blk.below HX1.out hb2 (Blk.lt HX1.out)
  clear hb2 c0 c1 c2 HX1 HB1
  rcases hr with ⟨hz, rfl⟩ | ⟨hz, rfl⟩
  · obtain ⟨c, r, rfl, rfl, hg⟩ := chk_zero hz
    have hpp := parse_print hg
    have hpl := prText_len c r l
    rw [HN.out] at hpl
    have hn8 := hg.n8
    rw [HN.out] at hn8
    simp only [Int.toNat_natCast]
    have HPp : Hid (parseT (⟨(prText c r l).toArray⟩ : ByteArray).data.toList = .ok c r l) := by show parseT _ = _; simpa using hpp
    have hps : (⟨(prText c r l).toArray⟩ : ByteArray).size < 4294967281 := by show (prText c r l).toArray.size < _; simp; omega
    clear hpp hpl hz hg
    generalize (⟨(prText c r l).toArray⟩ : ByteArray) = T at *
    go_wp2_with fail
    refine (HPa.out T _ HB2.out hps).mono ?_
    rintro e w3 ⟨hb3, hpt⟩
    rw [HPp.out] at hpt
    obtain ⟨v3, rfl, hv3⟩ := hpt
    have HB3 := Lib.hid (HB2.out.trans (hb3.mono HB2.out.size))
    have HX3 : Hid (S3 w3 w.heap.size (.int .i64 (c : Int)) (.int .i64 (r : Int)) (.slice Av n cv)) := Blk.below HX2.out hb3 (Blk.lt HX2.out)
    obtain ⟨A3, d3, rfl⟩ := SlM.form hv3
    rw [HN.out] at hv3
    have HV3 := Lib.hid hv3
    clear hb3 hv3 HX2 HB2 HPp
    have c0 := s3_cell0 HX3.out
    have c1 := s3_cell1 HX3.out
    have c2 := s3_cell2 HX3.out
    have cl := Blk.lt HX3.out
    rw [HN.out]
    have hb4 := HB3.out.alloc HB3.out.size (.cells #[.int .i64 (c : Int), .int .i64 (r : Int), .slice A3 n d3] 24)
    have hb4' := (Below.refl w3.heap.size w3).alloc (Nat.le_refl _) (.cells #[.int .i64 (c : Int), .int .i64 (r : Int), .slice A3 n d3] 24)
    have HEq := Lib.hid (equal_steps (.slice A3 n d3) (.slice Av n cv) l _ (SlM.later HV3.out hb4') (SlM.later HI.out hb4) (by rw [HN.out]; omega))
    have HB4 := Lib.hid hb4
    clear hb4 hb4'
    go_wp2_with fail
    refine HEq.out.mono ?_
    rintro e w4 ⟨rfl, hb4⟩
    have HB7 := Lib.hid (HB4.out.trans (hb4.mono HB4.out.size))
    clear hb4 c0 c1 c2 cl
    go_wp2_with fail
    refine (HPa.out t _ HB7.out ht).mono ?_
    rintro e w5 ⟨hb5, hpt⟩
    have HB5 := Lib.hid (HB7.out.trans (hb5.mono HB7.out.size))
    clear hb5
    cases hPT : parseT t.data.toList with
    | bad =>
      rw [hPT] at hpt
      clear hPT
      subst hpt
      go_wp2_with fail
      refine (HPr.out 0 0 (.slice none 0 0) [] _ (SlM.nil _ _)).mono ?_
      rintro e w6 ⟨hr, hb6⟩
      have HB6 := Lib.hid ((HB5.out.alloc HB5.out.size (.cells #[.int .i64 0, .int .i64 0, .slice none 0 0] 24)).trans (hb6.mono (by have := HB5.out.size; simp; omega)))
      clear hb6
      have h3 : chk 0 0 [] = 3 := rfl
      rw [h3] at hr
      rcases hr with ⟨h0, rfl⟩ | ⟨-, rfl⟩
      · exact absurd h0 (by decide)
      go_wp2_with fail
      go_ret
      exact ⟨rfl, HB6.out⟩
    | err ec =>
      rw [hPT] at hpt
      have hec := parse_err hPT
      have gec : (ec != 0) = true := by simpa using hec
      clear hPT
      subst hpt
      go_wp2_with fail
      refine (HPr.out 0 0 (.slice none 0 0) [] _ (SlM.nil _ _)).mono ?_
      rintro e w6 ⟨hr, hb6⟩
      have HB6 := Lib.hid ((HB5.out.alloc HB5.out.size (.cells #[.int .i64 0, .int .i64 0, .slice none 0 0] 24)).trans (hb6.mono (by have := HB5.out.size; simp; omega)))
      clear hb6
      have h3 : chk 0 0 [] = 3 := rfl
      rw [h3] at hr
      rcases hr with ⟨h0, rfl⟩ | ⟨-, rfl⟩
      · exact absurd h0 (by decide)
      go_wp2_with fail
      go_ret
      exact ⟨rfl, HB6.out⟩
    | ok pc pr pl =>
      rw [hPT] at hpt
      obtain ⟨hz5, ht5⟩ := print_parse hPT
      clear hPT
      obtain ⟨v5, rfl, hv5⟩ := hpt
      have HV5 := Lib.hid hv5
      obtain ⟨A5, d5, rfl⟩ := SlM.form hv5
      have HZ5 := Lib.hid hz5
      have hT5 : (⟨(prText pc pr pl).toArray⟩ : ByteArray) = t := by rw [ht5]
      have HT5 := Lib.hid hT5
      have HA5 := Lib.hid (SlM.later HV5.out ((Below.refl w5.heap.size w5).alloc (Nat.le_refl _) (.cells #[.int .i64 (pc : Nat), .int .i64 (pr : Nat), .slice A5 pl.length d5] 24)))
      clear hz5 ht5 hv5 hT5
      have HQ5 := Lib.hid (HPr.out pc pr (.slice A5 pl.length d5) pl _ HA5.out)
      generalize pl.length = np at *
      go_wp2_with fail
      refine HQ5.out.mono ?_
      rintro e w6 ⟨hr, hb6⟩
      have HB6 := Lib.hid ((HB5.out.alloc HB5.out.size (.cells #[.int .i64 (pc : Nat), .int .i64 (pr : Nat), .slice A5 np d5] 24)).trans (hb6.mono (by have := HB5.out.size; simp; omega)))
      clear hb6
      rcases hr with ⟨-, rfl⟩ | ⟨h0, rfl⟩
      case inr => exact absurd HZ5.out h0
      simp only [Int.toNat_natCast]
      rw [HT5.out]
      go_wp2_with fail
      go_ret
      exact ⟨rfl, HB6.out⟩
  · have gz : (chk C R l == 0) = false := by simpa using hz
    generalize chk C R l = z at *
    clear hz
    go_wp2_with fail
    refine (HPa.out t _ HB2.out ht).mono ?_
    rintro e w5 ⟨hb5, hpt⟩
    have HB5 := Lib.hid (HB2.out.trans (hb5.mono HB2.out.size))
    clear hb5
    cases hPT : parseT t.data.toList with
    | bad =>
      rw [hPT] at hpt
      clear hPT
      subst hpt
      go_wp2_with fail
      refine (HPr.out 0 0 (.slice none 0 0) [] _ (SlM.nil _ _)).mono ?_
      rintro e w6 ⟨hr, hb6⟩
      have HB6 := Lib.hid ((HB5.out.alloc HB5.out.size (.cells #[.int .i64 0, .int .i64 0, .slice none 0 0] 24)).trans (hb6.mono (by have := HB5.out.size; simp; omega)))
      clear hb6
      have h3 : chk 0 0 [] = 3 := rfl
      rw [h3] at hr
      rcases hr with ⟨h0, rfl⟩ | ⟨-, rfl⟩
      · exact absurd h0 (by decide)
      go_wp2_with fail
      go_ret
      exact ⟨rfl, HB6.out⟩
    | err ec =>
      rw [hPT] at hpt
      have hec := parse_err hPT
      have gec : (ec != 0) = true := by simpa using hec
      clear hPT
      subst hpt
      go_wp2_with fail
      refine (HPr.out 0 0 (.slice none 0 0) [] _ (SlM.nil _ _)).mono ?_
      rintro e w6 ⟨hr, hb6⟩
      have HB6 := Lib.hid ((HB5.out.alloc HB5.out.size (.cells #[.int .i64 0, .int .i64 0, .slice none 0 0] 24)).trans (hb6.mono (by have := HB5.out.size; simp; omega)))
      clear hb6
      have h3 : chk 0 0 [] = 3 := rfl
      rw [h3] at hr
      rcases hr with ⟨h0, rfl⟩ | ⟨-, rfl⟩
      · exact absurd h0 (by decide)
      go_wp2_with fail
      go_ret
      exact ⟨rfl, HB6.out⟩
    | ok pc pr pl =>
      rw [hPT] at hpt
      obtain ⟨hz5, ht5⟩ := print_parse hPT
      clear hPT
      obtain ⟨v5, rfl, hv5⟩ := hpt
      have HV5 := Lib.hid hv5
      obtain ⟨A5, d5, rfl⟩ := SlM.form hv5
      have HZ5 := Lib.hid hz5
      have hT5 : (⟨(prText pc pr pl).toArray⟩ : ByteArray) = t := by rw [ht5]
      have HT5 := Lib.hid hT5
      have HA5 := Lib.hid (SlM.later HV5.out ((Below.refl w5.heap.size w5).alloc (Nat.le_refl _) (.cells #[.int .i64 (pc : Nat), .int .i64 (pr : Nat), .slice A5 pl.length d5] 24)))
      clear hz5 ht5 hv5 hT5
      have HQ5 := Lib.hid (HPr.out pc pr (.slice A5 pl.length d5) pl _ HA5.out)
      generalize pl.length = np at *
      go_wp2_with fail
      refine HQ5.out.mono ?_
      rintro e w6 ⟨hr, hb6⟩
      have HB6 := Lib.hid ((HB5.out.alloc HB5.out.size (.cells #[.int .i64 (pc : Nat), .int .i64 (pr : Nat), .slice A5 np d5] 24)).trans (hb6.mono (by have := HB5.out.size; simp; omega)))
      clear hb6
      rcases hr with ⟨-, rfl⟩ | ⟨h0, rfl⟩
      case inr => exact absurd HZ5.out h0
      simp only [Int.toNat_natCast]
      rw [HT5.out]
      go_wp2_with fail
      go_ret
      exact ⟨rfl, HB6.out⟩

end Go.Proofs.YtjmanooedgfbaaaDoor
