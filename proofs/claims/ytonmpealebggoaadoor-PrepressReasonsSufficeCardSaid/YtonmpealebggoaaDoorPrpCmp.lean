/- The walk of compare, the first error of a comparison. -/
import Derived.Test.YtonmpealebggoaaDoorPrpCmp0
import Derived.IntWalk
namespace Go.Proofs.YtonmpealebggoaaDoor
open Go.RowKit Pr
theorem tm_take {w : World} {P : Nat → Prop} {A : Option Addr} {n c : Nat} {l : List Tm} (h : SlM w P (.slice A n c) l.length (tcells l)) {i : Nat} (hi : i ≤ l.length) : SlM w P (.slice A i c) (l.take i).length (tcells (l.take i)) := by
  obtain ⟨A', cap, hv, h1, h2, h3⟩ := h
  injection hv with e1 e2 e3
  subst e1; subst e3
  have hm : min i l.length = i := Nat.min_eq_left hi
  refine ⟨A, c, by rw [List.length_take, hm], by rw [List.length_take, hm]; omega, h2, fun hn => ?_⟩
  rw [List.length_take, hm] at hn
  obtain ⟨b, off, ha, hb, hl, hc⟩ := h3 (by omega)
  refine ⟨b, off, ha, hb, hl, fun k u hu => hc k u ?_⟩
  have hk := (List.getElem?_eq_some_iff.1 hu).1
  have : tcells l = tcells (l.take i) ++ tcells (l.drop i) := by unfold tcells; rw [← List.flatMap_append, List.take_append_drop]
  rw [this, List.getElem?_append_left hk]; exact hu
theorem termsE_step {l : List Tm} {i : Nat} (hi : i < l.length) : termsE (l.take i) (l.drop i) = if termE (l.take i) (l.getD i tm0) ≠ 0 then termE (l.take i) (l.getD i tm0) else termsE (l.take (i + 1)) (l.drop (i + 1)) := by
  have h1 : l.drop i = l.getD i tm0 :: l.drop (i + 1) := by rw [List.drop_eq_getElem_cons hi, List.getD_eq_getElem?_getD, List.getElem?_eq_getElem hi]; rfl
  have h2 : l.take (i + 1) = l.take i ++ [l.getD i tm0] := by rw [List.take_add_one, List.getD_eq_getElem?_getD, List.getElem?_eq_getElem hi]; rfl
  rw [h1, h2]; rfl
set_option maxRecDepth 100000 in
set_option maxHeartbeats 4000000 in
theorem compare_any (o : Cd) (v : V5) (P : Nat → Prop) (w : World) (h : CdV P w v o) :
    Calls Tryd.prog 55 #[v.val] w fun e w' => e = .returned (.int .i64 (compareE o)) ∧ Below w.heap.size w w' := by
  obtain ⟨tv, dv, vs, rfl, ht, hd, -, -, hz, -⟩ := h.open_
  clear h
  obtain ⟨k0, ts, c, n, ks⟩ := o
  dsimp only [Cd.kind, Cd.terms, Cd.cmp, Cd.than, Cd.kids, V5.val] at *
  obtain ⟨tA, tc, rfl⟩ := ht.form
  obtain ⟨dA, dc, rfl⟩ := hd.form
  have HE : Hid (compareE (.mk k0 ts c n ks) = if 0 < ks.length then 4 else if ts.length = 0 then 8 else if 8 < ts.length then 2 else if c < 0 ∨ 5 < c then 14
    else if n < -2147483648 ∨ 2147483648 < n then 3 else termsE [] ts) := rfl
  generalize compareE (.mk k0 ts c n ks) = E at *
  have hcap := ht.caps.2.1
  have HM := Lib.hid ht
  have HZ := Lib.hid hz
  have HSt := Lib.hid (fun i (hi : i < ts.length) => termsE_step hi)
  have HZ2 : Hid (termsE (ts.take ts.length) (ts.drop ts.length) = 0) := by unfold Hid; rw [List.drop_length]; rfl
  clear ht hd hz
  generalize ks.length = kn at *
  generalize htn : ts.length = tn at *
  have HN := Lib.hid htn
  clear htn
  go_enter Tryd.func55, Tryd.ntmps55
  by_cases c1 : 0 < kn
  · have t1 : decide (0 < kn) = true := by simp; omega
    have HR := Lib.hid (show E = 4 by rw [HE.out, if_pos c1])
    go_wp2_with fail
    go_ret
    exact ⟨by rw [HR.out]; rfl, (Below.refl _ _).alloc (Nat.le_refl _) _⟩
  have t1 : decide (0 < kn) = false := by simp; omega
  by_cases c2 : tn = 0
  · have t2 : ((tn : Int) == 0) = true := by rw [beq_iff_eq]; omega
    have HR := Lib.hid (show E = 8 by rw [HE.out, if_neg c1, if_pos c2])
    clear c2
    go_wp2_with fail
    go_ret
    exact ⟨by rw [HR.out]; rfl, (Below.refl _ _).alloc (Nat.le_refl _) _⟩
  have t2 : ((tn : Int) == 0) = false := by rw [beq_eq_false_iff_ne]; omega
  by_cases c3 : 8 < tn
  · have t3 : decide ((tn : Int) > 8) = true := by simp; omega
    have HR := Lib.hid (show E = 2 by rw [HE.out, if_neg c1, if_neg c2, if_pos c3])
    go_wp2_with fail
    go_ret
    exact ⟨by rw [HR.out]; rfl, (Below.refl _ _).alloc (Nat.le_refl _) _⟩
  have t3 : decide ((tn : Int) > 8) = false := by simp; omega
  by_cases c4 : c < 0
  · have t4 : decide (c < 0) = true := by simp; omega
    have HR := Lib.hid (show E = 14 by rw [HE.out, if_neg c1, if_neg c2, if_neg c3, if_pos (.inl c4)])
    go_wp2_with fail
    go_ret
    exact ⟨by rw [HR.out]; rfl, (Below.refl _ _).alloc (Nat.le_refl _) _⟩
  have t4 : decide (c < 0) = false := by simp; omega
  by_cases c5 : 5 < c
  · have t5 : decide (c > 5) = true := by simp; omega
    have HR := Lib.hid (show E = 14 by rw [HE.out, if_neg c1, if_neg c2, if_neg c3, if_pos (.inr c5)])
    go_wp2_with fail
    go_ret
    exact ⟨by rw [HR.out]; rfl, (Below.refl _ _).alloc (Nat.le_refl _) _⟩
  have t5 : decide (c > 5) = false := by simp; omega
  by_cases c6 : n < -2147483648
  · have t6 : decide (n < -2147483648) = true := by simp; omega
    have HR := Lib.hid (show E = 3 by rw [HE.out, if_neg c1, if_neg c2, if_neg c3, if_neg (show ¬ (c < 0 ∨ 5 < c) by omega), if_pos (.inl c6)])
    go_wp2_with fail
    go_ret
    exact ⟨by rw [HR.out]; rfl, (Below.refl _ _).alloc (Nat.le_refl _) _⟩
  have t6 : decide (n < -2147483648) = false := by simp; omega
  by_cases c7 : 2147483648 < n
  · have t7 : decide (n > 2147483648) = true := by simp; omega
    have HR := Lib.hid (show E = 3 by rw [HE.out, if_neg c1, if_neg c2, if_neg c3, if_neg (show ¬ (c < 0 ∨ 5 < c) by omega), if_pos (.inr c7)])
    go_wp2_with fail
    go_ret
    exact ⟨by rw [HR.out]; rfl, (Below.refl _ _).alloc (Nat.le_refl _) _⟩
  have t7 : decide (n > 2147483648) = false := by simp; omega
  have HG := Lib.hid (show E = termsE [] ts by rw [HE.out, if_neg c1, if_neg c2, if_neg c3, if_neg (show ¬ (c < 0 ∨ 5 < c) by omega), if_neg (show ¬ (n < -2147483648 ∨ 2147483648 < n) by omega)])
  have ht8 : tn ≤ 8 := by omega
  clear HE c1 c2 c3 c4 c5 c6 c7
  go_wp2_with fail
  have HB0 := Lib.hid ((Below.refl w.heap.size w).alloc (Nat.le_refl _) (Obj.cells #[Value.int .i64 k0, Value.slice tA tn tc, Value.int .i64 c, Value.int .i64 n, Value.slice dA kn dc] 34))
  go_loopw [3, 4, 41, 46, 60, 65] (fun _ _ v41 _ _ _ wr => ∃ i : Nat, i ≤ tn ∧ v41 = .int .i64 i ∧ E = termsE (ts.take i) (ts.drop i) ∧ Below w.heap.size w wr ∧ wr.cell? ⟨w.heap.size, 1, none⟩ = some (Value.slice tA tn tc) ∧ w.heap.size < wr.heap.size) (fun _ _ v41 _ _ _ _ => tn - (intOf v41).toNat)
  case atStart => exact ⟨0, Nat.zero_le _, rfl, HG.out, HB0.out, World.cell?_alloc_at _ _ _ _ rfl, by simp⟩
  case round =>
    obtain ⟨i, hi, rfl, he, hb, hbox, hlb⟩ := hrel
    have HE2 := Lib.hid he
    have HB := Lib.hid hb
    clear he HB0 HG
    by_cases hlt : i < tn
    · have t0 : decide ((i : Int) < (tn : Int)) = true := by simp; omega
      obtain ⟨b, off, rfl, -, hbl, hcl⟩ := tm_at (by rw [HN.out]; exact HM.out) (by rw [HN.out]; omega)
      obtain ⟨q0, q1⟩ := hcl i (by rw [HN.out]; exact hlt)
      replace q0 := (hb.cell (p := ⟨b, off + i * 2, none⟩) hbl).trans q0
      replace q1 := (hb.cell (p := ⟨b, off + i * 2 + 1, none⟩) hbl).trans q1
      have hbl2 := Nat.lt_of_lt_of_le hbl hb.size
      have HS := Lib.hid (HE2.out.trans (HSt.out i hlt))
      have hzi : (ts.getD i tm0).2.length ≤ 9223372036854775807 := HZ.out _ (by rw [List.getD_eq_getElem?_getD, List.getElem?_eq_getElem (by rw [HN.out]; exact hlt)]; exact List.getElem_mem _)
      have HPl := Lib.hid (fun W => plain_any (Bs (ts.getD i tm0).2) W (by show (ts.getD i tm0).2.toArray.size ≤ _; simpa using hzi))
      have HTk := Lib.hid (tm_take (by rw [HN.out]; exact HM.out) (i := i) (by rw [HN.out]; omega))
      clear hcl HE2 hb hzi
      generalize ts.getD i tm0 = x at *
      obtain ⟨k, m⟩ := x
      dsimp only at q0 q1 HPl
      have HPl := Lib.hid (fun W => (show Calls Tryd.prog 23 #[.string (Bs m)] W fun e w' => e = .returned (.bool (plainB m)) ∧ Below W.heap.size W w' by have := HPl.out W; simpa using this))
      have HBa := Lib.hid ((Below.refl wr.heap.size wr).alloc (Nat.le_refl _) (Obj.cells #[Value.int .i64 k, Value.string (Bs m)] 113))
      by_cases d1 : k = 0
      · have u1 : (k == 0) = true := by rw [beq_iff_eq]; omega
        have HR := Lib.hid (show E = 3 by rw [HS.out]; simp [termE, d1])
        clear d1
        go_wp2_with fail
        go_ret
        exact ⟨by rw [HR.out]; rfl, HB.out.trans (((Below.refl _ _).alloc (Nat.le_refl _) _).mono HB.out.size)⟩
      have u1 : (k == 0) = false := by rw [beq_eq_false_iff_ne]; omega
      by_cases d2 : k < -1000
      · have u2 : decide (k < -1000) = true := by simp; omega
        have HR := Lib.hid (show E = 3 by rw [HS.out]; have e : termE (ts.take i) (k, m) = 3 := if_pos (.inr (.inl d2)); rw [e]; rfl)
        go_wp2_with fail
        go_ret
        exact ⟨by rw [HR.out]; rfl, HB.out.trans (((Below.refl _ _).alloc (Nat.le_refl _) _).mono HB.out.size)⟩
      have u2 : decide (k < -1000) = false := by simp; omega
      by_cases d3 : 1000 < k
      · have u3 : decide (k > 1000) = true := by simp; omega
        have HR := Lib.hid (show E = 3 by rw [HS.out]; have e : termE (ts.take i) (k, m) = 3 := if_pos (.inr (.inr d3)); rw [e]; rfl)
        go_wp2_with fail
        go_ret
        exact ⟨by rw [HR.out]; rfl, HB.out.trans (((Below.refl _ _).alloc (Nat.le_refl _) _).mono HB.out.size)⟩
      have u3 : decide (k > 1000) = false := by simp; omega
      have HT := Lib.hid (show termE (ts.take i) (k, m) = if plainB m = false then 6 else if (ts.take i).any (fun x => x.2 == m) = true then 7 else 0 from if_neg (by simp only [not_or]; omega))
      clear d1 d2 d3
      generalize plainB m = pb at *
      cases pb
      · have HR := Lib.hid (show E = 6 by rw [HS.out, HT.out]; rfl)
        go_wp2_with (go_at_call 23; refine (HPl.out _).mono ?_; rintro e w5 ⟨rfl, hb5⟩)
        go_ret
        exact ⟨by rw [HR.out]; rfl, HB.out.trans ((HBa.out.trans (hb5.mono HBa.out.size)).mono HB.out.size)⟩
      · go_wp2_with fail
        refine (HPl.out _).mono ?_; rintro e w5 ⟨rfl, hb5⟩
        have HB5 := Lib.hid (HBa.out.trans (hb5.mono HBa.out.size))
        have hsz5 := HB5.out.size
        have hbox5 := (HB5.out.cell (p := ⟨w.heap.size, 1, none⟩) hlb).trans hbox
        have ht5 := (hb5.cell (p := ⟨wr.heap.size, 1, none⟩) (by simp)).trans (World.cell?_alloc_at _ _ _ _ rfl)
        have hlt5 : wr.heap.size < w5.heap.size := by have := hb5.size; simp at this; omega
        have HHs := Lib.hid (hasTerm_any (ts.take i) m wr.heap.size _ P w5 (HTk.out.later (HB.out.trans (HB5.out.mono HB.out.size))) ht5 hlt5)
        clear hb5 ht5
        have hic : i ≤ tc := by omega
        have HF := Lib.hid (show (ts.take i).any (fun x => x.2 == m) = true → E = 7 from fun h => by rw [HS.out, HT.out, h]; rfl)
        have HG := Lib.hid (show (ts.take i).any (fun x => x.2 == m) = false → E = termsE (ts.take (i + 1)) (ts.drop (i + 1)) from fun h => by rw [HS.out, HT.out, h]; rfl)
        generalize (ts.take i).any (fun x => x.2 == m) = res at *
        cases res
        · have HG2 := Lib.hid (HG.out rfl)
          go_wp2_with fail
          refine HHs.out.mono ?_; rintro e w6 ⟨rfl, hb6⟩
          have hz5 := HB5.out.size
          have hz6 := hb6.size
          have hbox6 := (hb6.cell (p := ⟨w.heap.size, 1, none⟩) (by show w.heap.size < w5.heap.size; omega)).trans hbox5
          have HB6 := Lib.hid (HB.out.trans ((HB5.out.trans (hb6.mono hsz5)).mono HB.out.size))
          have hl6 : w.heap.size < w6.heap.size := by omega
          clear hb6
          go_wp2_with fail
          go_roundw
          case rel => exact ⟨i + 1, by omega, by go_num, HG2.out, HB6.out, hbox6, hl6⟩
          case measure => simp [intOf]; omega
        · have HR := Lib.hid (HF.out rfl)
          go_wp2_with fail
          refine HHs.out.mono ?_; rintro e w6 ⟨rfl, hb6⟩
          have HB6 := Lib.hid (HB.out.trans ((HB5.out.trans (hb6.mono hsz5)).mono HB.out.size))
          clear hb6
          go_wp2_with fail
          go_ret
          exact ⟨by rw [HR.out]; rfl, HB6.out⟩
    · have t0 : decide ((i : Int) < (tn : Int)) = false := by simp; omega
      obtain rfl : i = tn := by omega
      have HR := Lib.hid (show E = 0 by rw [HE2.out, ← HN.out, HN.out, HZ2.out])
      go_wp2_with fail
      go_ret
      exact ⟨by rw [HR.out]; rfl, HB.out⟩
end Go.Proofs.YtonmpealebggoaaDoor
