/- The walk of compare, the first error of a comparison. The walk of compare, the first error of a comparison. -/
import Derived.Test.YtonmpealebggoaaGreatDoorPrpNm
import Derived.Test.YtonmpealebggoaaGreatDoorPrpPlain
import Derived.IntWalk
namespace Go.Proofs.YtonmpealebggoaaGreatDoor
open Go.RowKit Pr
abbrev Bs (l : Src) : ByteArray := ⟨l.toArray⟩
def tagg (x : Tm) : Value := .agg #[.int .i64 x.1, .string (Bs x.2)]
theorem beq_bs (a b : Src) : ((Bs a).toList == (Bs b).toList) = (a == b) := by rw [Lib.toList_data, Lib.toList_data]
theorem sameTerm_any (x : Tm) (nm : Src) (C : Nat) (w : World) (hc : w.cell? ⟨C, 1, none⟩ = some (.string (Bs nm))) (hl : C < w.heap.size) :
    Calls Tryz.prog 76 #[tagg x, .pointer (some ⟨C, 0, none⟩)] w fun e w' => e = .returned (.bool (x.2 == nm)) ∧ Below w.heap.size w w' := by
  obtain ⟨k, n⟩ := x
  unfold tagg
  have HE := Lib.hid (beq_bs n nm)
  dsimp only at HE ⊢
  generalize Bs nm = B at *
  generalize Bs n = A at *
  go_enter Tryz.func76, Tryz.ntmps76
  go_wp2
  go_ret
  exact ⟨by rw [← HE.out]; rfl, (Below.refl _ _).alloc (Nat.le_refl _) _⟩
theorem any_take {α : Type} (p : α → Bool) (d : α) (l : List α) {i : Nat} (hi : i < l.length) (h : (l.take i).any p = false) : (l.take (i + 1)).any p = p (l.getD i d) := by
  rw [List.take_add_one, List.any_append, h, List.getD_eq_getElem?_getD, List.getElem?_eq_getElem hi]; simp
theorem any_take_true {α : Type} (p : α → Bool) (l : List α) (i : Nat) (h : (l.take i).any p = true) : l.any p = true := by
  obtain ⟨x, hx, h2⟩ := List.any_eq_true.1 h
  exact List.any_eq_true.2 ⟨x, List.mem_of_mem_take hx, h2⟩
set_option maxRecDepth 100000 in
set_option maxHeartbeats 4000000 in
theorem idxTerm_any (l : List Tm) (nm : Src) (C : Nat) (v : Value) (P : Nat → Prop) (w : World) (h : SlM w P v l.length (tcells l)) (hc : w.cell? ⟨C, 1, none⟩ = some (.string (Bs nm))) (hl : C < w.heap.size) :
    Calls Tryz.prog 97 #[v, .func (.func 76) #[] #[.pointer (some ⟨C, 0, none⟩)]] w fun e w' => (∃ r : Int, e = .returned (.int .i64 r) ∧ decide (r ≥ 0) = l.any (fun x => x.2 == nm)) ∧ Below w.heap.size w w' := by
  have HN := Lib.hid (fun i (hi : i < l.length) (h : (l.take i).any (fun x => x.2 == nm) = false) => any_take (fun x : Tm => x.2 == nm) tm0 l hi h)
  have HT := Lib.hid (fun i (h : (l.take i).any (fun x => x.2 == nm) = true) => any_take_true (fun x : Tm => x.2 == nm) l i h)
  have HZ : Hid ((l.take l.length).any (fun x => x.2 == nm) = l.any (fun x => x.2 == nm)) := by unfold Hid; rw [List.take_length]
  obtain ⟨A, c, rfl⟩ := h.form
  have cmc := h.caps
  unfold maxLen at cmc
  have HL := Lib.hid h
  have HC := Lib.hid hc
  clear h hc
  generalize hnn : l.length = n at *
  have HNn := Lib.hid hnn
  clear hnn
  go_enter Tryz.func97, Tryz.ntmps97
  go_wp2
  go_loopw [8] (fun vi wr => ∃ i : Nat, i ≤ n ∧ vi = .int .i64 i ∧ (l.take i).any (fun x => x.2 == nm) = false ∧ Below w.heap.size w wr) (fun i _ => n - (intOf i).toNat)
  case atStart => exact ⟨0, by omega, rfl, by simp, Below.refl _ _⟩
  case round =>
    obtain ⟨i, hi, rfl, hno, hb⟩ := hrel
    have HB := Lib.hid hb
    have HO := Lib.hid hno
    clear hno
    by_cases hlt : i < n
    · obtain ⟨b, off, rfl, -, hbl, hcl⟩ := tm_at (by rw [HNn.out]; exact HL.out) (by rw [HNn.out]; omega)
      obtain ⟨q0, q1⟩ := hcl i (by rw [HNn.out]; exact hlt)
      replace q0 := (hb.cell (p := ⟨b, off + i * 2, none⟩) hbl).trans q0
      replace q1 := (hb.cell (p := ⟨b, off + i * 2 + 1, none⟩) hbl).trans q1
      have hsz := hb.size
      have HA := Lib.hid (sameTerm_any (l.getD i tm0) nm C wr ((hb.cell (p := ⟨C, 1, none⟩) hl).trans HC.out) (by omega))
      have HM := Lib.hid (HN.out i hlt HO.out)
      clear hcl hb HO
      generalize l.getD i tm0 = x at *
      obtain ⟨k, m⟩ := x
      dsimp only [tagg] at q0 q1 HA HM
      go_wp2_with (go_at_call 76; refine HA.out.mono ?_; rintro e w5 ⟨rfl, hb5⟩)
      · rename_i hx
        go_ret
        refine ⟨⟨(i : Int), rfl, ?_⟩, HB.out.trans (hb5.mono HB.out.size)⟩
        rw [HT.out (i + 1) (by rw [HM.out]; exact hx)]
        simp
      · rename_i hx
        exact ⟨⟨i + 1, by omega, by go_num, by rw [HM.out]; exact hx, HB.out.trans (hb5.mono HB.out.size)⟩, by simp [intOf]; omega⟩
    · obtain rfl : i = n := by omega
      go_wp2
      go_ret
      exact ⟨⟨-1, rfl, by rw [← HZ.out, HO.out]; rfl⟩, HB.out⟩
set_option maxHeartbeats 1000000 in
theorem hasTerm_any (l : List Tm) (nm : Src) (C : Nat) (v : Value) (P : Nat → Prop) (w : World) (h : SlM w P v l.length (tcells l)) (hc : w.cell? ⟨C, 1, none⟩ = some (.string (Bs nm))) (hl : C < w.heap.size) :
    Calls Tryz.prog 75 #[v, .func (.func 76) #[] #[.pointer (some ⟨C, 0, none⟩)]] w fun e w' => e = .returned (.bool (l.any (fun x => x.2 == nm))) ∧ Below w.heap.size w w' := by
  have HI := Lib.hid (idxTerm_any l nm C v P w h hc hl)
  obtain ⟨A, c, rfl⟩ := h.form
  clear h hc
  generalize l.length = n at *
  generalize (l.any (fun x => x.2 == nm)) = res at *
  go_enter Tryz.func75, Tryz.ntmps75
  go_wp2_with (go_at_call 97; refine HI.out.mono ?_; rintro e w5 ⟨⟨r, rfl, hr⟩, hb5⟩)
  go_ret
  exact ⟨by rw [← hr]; rfl, hb5⟩
end Go.Proofs.YtonmpealebggoaaGreatDoor
namespace Go.Proofs.YtonmpealebggoaaGreatDoor
open Go.RowKit Pr
theorem tm_take {w : World} {P : Nat → Prop} {A : Option Addr} {n c : Nat} {l : List Tm} (h : SlM w P (.slice A n c) l.length (tcells l)) {i : Nat} (hi : i ≤ l.length) : SlM w P (.slice A i c) (l.take i).length (tcells (l.take i)) := by
  obtain ⟨A', cap, hv, h1, h2, h3⟩ := h
  injection hv with e1 e2 e3
  subst e1; subst e3
  have hm : min i l.length = i := Nat.min_eq_left hi
  refine ⟨A, c, by rw [List.length_take, hm], by rw [List.length_take, hm]; omega, h2, fun hn => ?_⟩
  rw [List.length_take, hm] at hn
  obtain ⟨b, off, ha, hb, hl, hc⟩ := h3 (by omega)
  refine ⟨b, off, ha, hb, hl, fun k u hu => hc k u ?_⟩
  have hk := (List.getElem?_eq_some_iff.1 hu).1
  have : tcells l = tcells (l.take i) ++ tcells (l.drop i) := by unfold tcells; rw [← List.flatMap_append, List.take_append_drop]
  rw [this, List.getElem?_append_left hk]; exact hu
theorem termsE_step {l : List Tm} {i : Nat} (hi : i < l.length) : termsE (l.take i) (l.drop i) = if termE (l.take i) (l.getD i tm0) ≠ 0 then termE (l.take i) (l.getD i tm0) else termsE (l.take (i + 1)) (l.drop (i + 1)) := by
  have h1 : l.drop i = l.getD i tm0 :: l.drop (i + 1) := by rw [List.drop_eq_getElem_cons hi, List.getD_eq_getElem?_getD, List.getElem?_eq_getElem hi]; rfl
  have h2 : l.take (i + 1) = l.take i ++ [l.getD i tm0] := by rw [List.take_add_one, List.getD_eq_getElem?_getD, List.getElem?_eq_getElem hi]; rfl
  rw [h1, h2]; rfl
set_option maxRecDepth 100000 in
set_option maxHeartbeats 4000000 in
theorem compare_any (o : Cd) (v : V5) (P : Nat → Prop) (w : World) (h : CdV P w v o) :
    Calls Tryz.prog 48 #[v.val] w fun e w' => e = .returned (.int .i64 (compareE o)) ∧ Below w.heap.size w w' := by
  obtain ⟨tv, dv, vs, rfl, ht, hd, -, -, hz, -⟩ := h.open_
  clear h
  obtain ⟨k0, ts, c, n, ks⟩ := o
  dsimp only [Cd.kind, Cd.terms, Cd.cmp, Cd.than, Cd.kids, V5.val] at *
  obtain ⟨tA, tc, rfl⟩ := ht.form
  obtain ⟨dA, dc, rfl⟩ := hd.form
  have HE : Hid (compareE (.mk k0 ts c n ks) = if 0 < ks.length then 4 else if ts.length = 0 then 8 else if 8 < ts.length then 2 else if c < 0 ∨ 5 < c then 14
    else if n < -2147483648 ∨ 2147483648 < n then 3 else termsE [] ts) := rfl
  generalize compareE (.mk k0 ts c n ks) = E at *
  have hcap := ht.caps.2.1
  have HM := Lib.hid ht
  have HZ := Lib.hid hz
  have HSt := Lib.hid (fun i (hi : i < ts.length) => termsE_step hi)
  have HZ2 : Hid (termsE (ts.take ts.length) (ts.drop ts.length) = 0) := by unfold Hid; rw [List.drop_length]; rfl
  clear ht hd hz
  generalize ks.length = kn at *
  generalize htn : ts.length = tn at *
  have HN := Lib.hid htn
  clear htn
  go_enter Tryz.func48, Tryz.ntmps48
  by_cases c1 : 0 < kn
  · have t1 : decide (0 < kn) = true := by simp; omega
    have HR := Lib.hid (show E = 4 by rw [HE.out, if_pos c1])
    go_wp2_with fail
    go_ret
    exact ⟨by rw [HR.out]; rfl, (Below.refl _ _).alloc (Nat.le_refl _) _⟩
  have t1 : decide (0 < kn) = false := by simp; omega
  by_cases c2 : tn = 0
  · have t2 : ((tn : Int) == 0) = true := by rw [beq_iff_eq]; omega
    have HR := Lib.hid (show E = 8 by rw [HE.out, if_neg c1, if_pos c2])
    clear c2
    go_wp2_with fail
    go_ret
    exact ⟨by rw [HR.out]; rfl, (Below.refl _ _).alloc (Nat.le_refl _) _⟩
  have t2 : ((tn : Int) == 0) = false := by rw [beq_eq_false_iff_ne]; omega
  by_cases c3 : 8 < tn
  · have t3 : decide ((tn : Int) > 8) = true := by simp; omega
    have HR := Lib.hid (show E = 2 by rw [HE.out, if_neg c1, if_neg c2, if_pos c3])
    go_wp2_with fail
    go_ret
    exact ⟨by rw [HR.out]; rfl, (Below.refl _ _).alloc (Nat.le_refl _) _⟩
  have t3 : decide ((tn : Int) > 8) = false := by simp; omega
  by_cases c4 : c < 0
  · have t4 : decide (c < 0) = true := by simp; omega
    have HR := Lib.hid (show E = 14 by rw [HE.out, if_neg c1, if_neg c2, if_neg c3, if_pos (.inl c4)])
    go_wp2_with fail
    go_ret
    exact ⟨by rw [HR.out]; rfl, (Below.refl _ _).alloc (Nat.le_refl _) _⟩
  have t4 : decide (c < 0) = false := by simp; omega
  by_cases c5 : 5 < c
  · have t5 : decide (c > 5) = true := by simp; omega
    have HR := Lib.hid (show E = 14 by rw [HE.out, if_neg c1, if_neg c2, if_neg c3, if_pos (.inr c5)])
    go_wp2_with fail
    go_ret
    exact ⟨by rw [HR.out]; rfl, (Below.refl _ _).alloc (Nat.le_refl _) _⟩
  have t5 : decide (c > 5) = false := by simp; omega
  by_cases c6 : n < -2147483648
  · have t6 : decide (n < -2147483648) = true := by simp; omega
    have HR := Lib.hid (show E = 3 by rw [HE.out, if_neg c1, if_neg c2, if_neg c3, if_neg (show ¬ (c < 0 ∨ 5 < c) by omega), if_pos (.inl c6)])
    go_wp2_with fail
    go_ret
    exact ⟨by rw [HR.out]; rfl, (Below.refl _ _).alloc (Nat.le_refl _) _⟩
  have t6 : decide (n < -2147483648) = false := by simp; omega
  by_cases c7 : 2147483648 < n
  · have t7 : decide (n > 2147483648) = true := by simp; omega
    have HR := Lib.hid (show E = 3 by rw [HE.out, if_neg c1, if_neg c2, if_neg c3, if_neg (show ¬ (c < 0 ∨ 5 < c) by omega), if_pos (.inr c7)])
    go_wp2_with fail
    go_ret
    exact ⟨by rw [HR.out]; rfl, (Below.refl _ _).alloc (Nat.le_refl _) _⟩
  have t7 : decide (n > 2147483648) = false := by simp; omega
  have HG := Lib.hid (show E = termsE [] ts by rw [HE.out, if_neg c1, if_neg c2, if_neg c3, if_neg (show ¬ (c < 0 ∨ 5 < c) by omega), if_neg (show ¬ (n < -2147483648 ∨ 2147483648 < n) by omega)])
  have ht8 : tn ≤ 8 := by omega
  clear HE c1 c2 c3 c4 c5 c6 c7
  go_wp2_with fail
  have HB0 := Lib.hid ((Below.refl w.heap.size w).alloc (Nat.le_refl _) (Obj.cells #[Value.int .i64 k0, Value.slice tA tn tc, Value.int .i64 c, Value.int .i64 n, Value.slice dA kn dc] 25))
  go_loopw [3, 4, 41, 46, 60, 65] (fun _ _ v41 _ _ _ wr => ∃ i : Nat, i ≤ tn ∧ v41 = .int .i64 i ∧ E = termsE (ts.take i) (ts.drop i) ∧ Below w.heap.size w wr ∧ wr.cell? ⟨w.heap.size, 1, none⟩ = some (Value.slice tA tn tc) ∧ w.heap.size < wr.heap.size) (fun _ _ v41 _ _ _ _ => tn - (intOf v41).toNat)
  case atStart => exact ⟨0, Nat.zero_le _, rfl, HG.out, HB0.out, World.cell?_alloc_at _ _ _ _ rfl, by simp⟩
  case round =>
    obtain ⟨i, hi, rfl, he, hb, hbox, hlb⟩ := hrel
    have HE2 := Lib.hid he
    have HB := Lib.hid hb
    clear he HB0 HG
    by_cases hlt : i < tn
    · have t0 : decide ((i : Int) < (tn : Int)) = true := by simp; omega
      obtain ⟨b, off, rfl, -, hbl, hcl⟩ := tm_at (by rw [HN.out]; exact HM.out) (by rw [HN.out]; omega)
      obtain ⟨q0, q1⟩ := hcl i (by rw [HN.out]; exact hlt)
      replace q0 := (hb.cell (p := ⟨b, off + i * 2, none⟩) hbl).trans q0
      replace q1 := (hb.cell (p := ⟨b, off + i * 2 + 1, none⟩) hbl).trans q1
      have hbl2 := Nat.lt_of_lt_of_le hbl hb.size
      have HS := Lib.hid (HE2.out.trans (HSt.out i hlt))
      have hzi : (ts.getD i tm0).2.length ≤ 9223372036854775807 := HZ.out _ (by rw [List.getD_eq_getElem?_getD, List.getElem?_eq_getElem (by rw [HN.out]; exact hlt)]; exact List.getElem_mem _)
      have HPl := Lib.hid (fun W => plain_any (Bs (ts.getD i tm0).2) W (by show (ts.getD i tm0).2.toArray.size ≤ _; simpa using hzi))
      have HTk := Lib.hid (tm_take (by rw [HN.out]; exact HM.out) (i := i) (by rw [HN.out]; omega))
      clear hcl HE2 hb hzi
      generalize ts.getD i tm0 = x at *
      obtain ⟨k, m⟩ := x
      dsimp only at q0 q1 HPl
      have HPl := Lib.hid (fun W => (show Calls Tryz.prog 29 #[.string (Bs m)] W fun e w' => e = .returned (.bool (plainB m)) ∧ Below W.heap.size W w' by have := HPl.out W; simpa using this))
      have HBa := Lib.hid ((Below.refl wr.heap.size wr).alloc (Nat.le_refl _) (Obj.cells #[Value.int .i64 k, Value.string (Bs m)] 80))
      by_cases d1 : k = 0
      · have u1 : (k == 0) = true := by rw [beq_iff_eq]; omega
        have HR := Lib.hid (show E = 3 by rw [HS.out]; simp [termE, d1])
        clear d1
        go_wp2_with fail
        go_ret
        exact ⟨by rw [HR.out]; rfl, HB.out.trans (((Below.refl _ _).alloc (Nat.le_refl _) _).mono HB.out.size)⟩
      have u1 : (k == 0) = false := by rw [beq_eq_false_iff_ne]; omega
      by_cases d2 : k < -1000
      · have u2 : decide (k < -1000) = true := by simp; omega
        have HR := Lib.hid (show E = 3 by rw [HS.out]; have e : termE (ts.take i) (k, m) = 3 := if_pos (.inr (.inl d2)); rw [e]; rfl)
        go_wp2_with fail
        go_ret
        exact ⟨by rw [HR.out]; rfl, HB.out.trans (((Below.refl _ _).alloc (Nat.le_refl _) _).mono HB.out.size)⟩
      have u2 : decide (k < -1000) = false := by simp; omega
      by_cases d3 : 1000 < k
      · have u3 : decide (k > 1000) = true := by simp; omega
        have HR := Lib.hid (show E = 3 by rw [HS.out]; have e : termE (ts.take i) (k, m) = 3 := if_pos (.inr (.inr d3)); rw [e]; rfl)
        go_wp2_with fail
        go_ret
        exact ⟨by rw [HR.out]; rfl, HB.out.trans (((Below.refl _ _).alloc (Nat.le_refl _) _).mono HB.out.size)⟩
      have u3 : decide (k > 1000) = false := by simp; omega
      have HT := Lib.hid (show termE (ts.take i) (k, m) = if plainB m = false then 6 else if (ts.take i).any (fun x => x.2 == m) = true then 7 else 0 from if_neg (by simp only [not_or]; omega))
      clear d1 d2 d3
      generalize plainB m = pb at *
      cases pb
      · have HR := Lib.hid (show E = 6 by rw [HS.out, HT.out]; rfl)
        go_wp2_with (go_at_call 29; refine (HPl.out _).mono ?_; rintro e w5 ⟨rfl, hb5⟩)
        go_ret
        exact ⟨by rw [HR.out]; rfl, HB.out.trans ((HBa.out.trans (hb5.mono HBa.out.size)).mono HB.out.size)⟩
      · go_wp2_with fail
        refine (HPl.out _).mono ?_; rintro e w5 ⟨rfl, hb5⟩
        have HB5 := Lib.hid (HBa.out.trans (hb5.mono HBa.out.size))
        have hsz5 := HB5.out.size
        have hbox5 := (HB5.out.cell (p := ⟨w.heap.size, 1, none⟩) hlb).trans hbox
        have ht5 := (hb5.cell (p := ⟨wr.heap.size, 1, none⟩) (by simp)).trans (World.cell?_alloc_at _ _ _ _ rfl)
        have hlt5 : wr.heap.size < w5.heap.size := by have := hb5.size; simp at this; omega
        have HHs := Lib.hid (hasTerm_any (ts.take i) m wr.heap.size _ P w5 (HTk.out.later (HB.out.trans (HB5.out.mono HB.out.size))) ht5 hlt5)
        clear hb5 ht5
        have hic : i ≤ tc := by omega
        have HF := Lib.hid (show (ts.take i).any (fun x => x.2 == m) = true → E = 7 from fun h => by rw [HS.out, HT.out, h]; rfl)
        have HG := Lib.hid (show (ts.take i).any (fun x => x.2 == m) = false → E = termsE (ts.take (i + 1)) (ts.drop (i + 1)) from fun h => by rw [HS.out, HT.out, h]; rfl)
        generalize (ts.take i).any (fun x => x.2 == m) = res at *
        cases res
        · have HG2 := Lib.hid (HG.out rfl)
          go_wp2_with fail
          refine HHs.out.mono ?_; rintro e w6 ⟨rfl, hb6⟩
          have hz5 := HB5.out.size
          have hz6 := hb6.size
          have hbox6 := (hb6.cell (p := ⟨w.heap.size, 1, none⟩) (by show w.heap.size < w5.heap.size; omega)).trans hbox5
          have HB6 := Lib.hid (HB.out.trans ((HB5.out.trans (hb6.mono hsz5)).mono HB.out.size))
          have hl6 : w.heap.size < w6.heap.size := by omega
          clear hb6
          go_wp2_with fail
          go_roundw
          case rel => exact ⟨i + 1, by omega, by go_num, HG2.out, HB6.out, hbox6, hl6⟩
          case measure => simp [intOf]; omega
        · have HR := Lib.hid (HF.out rfl)
          go_wp2_with fail
          refine HHs.out.mono ?_; rintro e w6 ⟨rfl, hb6⟩
          have HB6 := Lib.hid (HB.out.trans ((HB5.out.trans (hb6.mono hsz5)).mono HB.out.size))
          clear hb6
          go_wp2_with fail
          go_ret
          exact ⟨by rw [HR.out]; rfl, HB6.out⟩
    · have t0 : decide ((i : Int) < (tn : Int)) = false := by simp; omega
      obtain rfl : i = tn := by omega
      have HR := Lib.hid (show E = 0 by rw [HE2.out, ← HN.out, HN.out, HZ2.out])
      go_wp2_with fail
      go_ret
      exact ⟨by rw [HR.out]; rfl, HB.out⟩
end Go.Proofs.YtonmpealebggoaaGreatDoor
