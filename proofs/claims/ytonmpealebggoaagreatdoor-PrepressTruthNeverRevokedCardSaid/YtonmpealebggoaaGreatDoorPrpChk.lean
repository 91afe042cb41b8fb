/- The walk of Check: the first error of rules. -/
import Derived.Test.YtonmpealebggoaaGreatDoorPrpPrt
namespace Go.Proofs.YtonmpealebggoaaGreatDoor
open Go.RowKit Pr
theorem rulesE_step {l : List Rl} {i : Nat} (hi : i < l.length) : rulesE (l.take i) (l.drop i) = if ruleE (l.take i) (l.getD i rl0) ≠ 0 then ruleE (l.take i) (l.getD i rl0) else rulesE (l.take (i + 1)) (l.drop (i + 1)) := by
  have h1 : l.drop i = l.getD i rl0 :: l.drop (i + 1) := by rw [List.drop_eq_getElem_cons hi, List.getD_eq_getElem?_getD, List.getElem?_eq_getElem hi]; rfl
  have h2 : l.take (i + 1) = l.take i ++ [l.getD i rl0] := by rw [List.take_add_one, List.getD_eq_getElem?_getD, List.getElem?_eq_getElem hi]; rfl
  rw [h1, h2]; rfl
set_option maxRecDepth 100000 in
set_option maxHeartbeats 4000000 in
theorem check_any (l : List Rl) (v : Value) (P : Nat → Prop) (w : World) (h : RlsV P w v l) (hT : Tabs w) :
    Calls Tryz.prog 12 #[v] w fun e w' => e = .returned (.int .i64 (checkE l)) ∧ Below w.heap.size w w' := by
  obtain ⟨A, c, rfl⟩ := h.form
  have hcap := h.caps.2.1
  have HM := Lib.hid h
  have HE : Hid (checkE l = if 32 < l.length then 2 else if rulesE [] l ≠ 0 then rulesE [] l else if 4096 < (printS l).length then 2 else 0) := rfl
  generalize checkE l = E at *
  by_cases c1 : 32 < l.length
  · have t1 : decide ((l.length : Int) > 32) = true := by simp; omega
    have HR := Lib.hid (show E = 2 by rw [HE.out, if_pos c1])
    clear h HE
    generalize l.length = n at *
    go_enter Tryz.func12, Tryz.ntmps12
    go_wp2_with fail
    go_ret
    exact ⟨by rw [HR.out]; rfl, Below.refl _ _⟩
  have t1 : decide ((l.length : Int) > 32) = false := by simp; omega
  have hn32 : l.length ≤ 32 := by omega
  have HE2 := Lib.hid (HE.out.trans (if_neg c1))
  have HSt := Lib.hid (fun i (hi : i < l.length) => rulesE_step hi)
  have HZ := Lib.hid (fun i (hi : i < l.length) => (h.names _ (by rw [List.getD_eq_getElem?_getD, List.getElem?_eq_getElem hi]; exact List.getElem_mem _) : (l.getD i rl0).1.length ≤ maxLen))
  have HPr := Lib.hid (fun (hz : rulesE [] l = 0) W (hw : Below w.heap.size w W) => printed_any l _ P W (h.later hw) (rules_ok hz) hn32 (hT.later hw))
  have HEn : Hid (rulesE (l.take l.length) (l.drop l.length) = 0) := by unfold Hid; rw [List.drop_length]; rfl
  clear h hT HE c1
  generalize printS l = PS at *
  have HE3 : Hid (rulesE [] l = rulesE (l.take 0) (l.drop 0)) := rfl
  generalize rulesE [] l = RE at *
  generalize hln : l.length = n at *
  have HN := Lib.hid hln
  clear hln
  go_enter Tryz.func12, Tryz.ntmps12
  go_wp2_with fail
  go_loopw [3, 4, 5, 11] (fun _ _ _ v11 wr => ∃ i : Nat, i ≤ n ∧ v11 = .int .i64 i ∧ RE = rulesE (l.take i) (l.drop i) ∧ Below w.heap.size w wr) (fun _ _ _ v11 _ => n - (intOf v11).toNat)
  case atStart => exact ⟨0, Nat.zero_le _, rfl, HE3.out, Below.refl _ _⟩
  case round =>
    obtain ⟨i, hi, rfl, he, hb⟩ := hrel
    have HB := Lib.hid hb
    have HRe := Lib.hid he
    clear he HE3
    by_cases hlt : i < n
    · have t0 : decide ((i : Int) < (n : Int)) = true := by simp; omega
      obtain ⟨b, off, rfl, -, hbl, hcl⟩ := rl_at HM.out (by rw [HN.out]; omega)
      obtain ⟨A2, c2, A3, c3, hcd, q0, q1, q2, q3, q4, q5⟩ := hcl i (by rw [HN.out]; exact hlt)
      replace q0 := (hb.cell (p := ⟨b, off + i * 6, none⟩) hbl).trans q0
      replace q1 := (hb.cell (p := ⟨b, off + i * 6 + 1, none⟩) hbl).trans q1
      replace q2 := (hb.cell (p := ⟨b, off + i * 6 + 2, none⟩) hbl).trans q2
      replace q3 := (hb.cell (p := ⟨b, off + i * 6 + 3, none⟩) hbl).trans q3
      replace q4 := (hb.cell (p := ⟨b, off + i * 6 + 4, none⟩) hbl).trans q4
      replace q5 := (hb.cell (p := ⟨b, off + i * 6 + 5, none⟩) hbl).trans q5
      have hbl2 := Nat.lt_of_lt_of_le hbl hb.size
      have HS := Lib.hid (HRe.out.trans (HSt.out i hlt))
      have hzi := HZ.out i hlt
      unfold maxLen at hzi
      have HTk := Lib.hid (rl_take HM.out (i := i) (by rw [HN.out]; omega))
      generalize l.getD i rl0 = x at *
      obtain ⟨nm, d⟩ := x
      dsimp only at q0 q1 q2 q3 q4 q5 hcd hzi
      have HPl := Lib.hid (fun W => (show Calls Tryz.prog 29 #[.string (Bs nm)] W fun e w' => e = .returned (.bool (plainB nm)) ∧ Below W.heap.size W w' by have := plain_any (Bs nm) W (by show nm.toArray.size ≤ _; simpa using hzi); simpa using this))
      have HCd := Lib.hid (fun W K (hw : Below w.heap.size w W) (hK : w.heap.size ≤ K) (hr : Row W K [.int .i64 ((0 : Nat) : Int)]) => cond_any 12 (by omega) d _ (fun b => P b ∧ b < w.heap.size) K 0 W ((hcd.mono fun b hb hP => ⟨hP, hb⟩).later hw) (fun hh => absurd hh.2 (by omega)) hr (by omega))
      unfold V5.val at HCd
      dsimp only at HCd
      rw [show (13 : Int) - ((12 : Nat) : Int) = 1 from rfl, show ((0 : Nat) : Int) = 0 from rfl] at HCd
      have HRE : Hid (ruleE (l.take i) (nm, d) = if plainB nm = false then 6 else if (l.take i).any (fun x => x.1 == nm) = true then 7 else (condF 12 0 d).1) := rfl
      clear hcl hb hzi hcd HRe
      generalize d.kind = x0 at *
      generalize d.terms.length = x1 at *
      generalize d.cmp = x2 at *
      generalize d.than = x3 at *
      generalize d.kids.length = x4 at *
      generalize condF 12 0 d = R at *
      obtain ⟨r, m2⟩ := R
      dsimp only at HRE HCd
      have HBa := Lib.hid ((Below.refl wr.heap.size wr).alloc (Nat.le_refl _) (.cells #[Value.string (Bs nm), Value.int .i64 x0, Value.slice A2 x1 c2, Value.int .i64 x2, Value.int .i64 x3, Value.slice A3 x4 c3] 27))
      have hxc := fun j => (World.cell?_alloc_at (w := wr) #[Value.string (Bs nm), Value.int .i64 x0, Value.slice A2 x1 c2, Value.int .i64 x2, Value.int .i64 x3, Value.slice A3 x4 c3] 27 wr.heap.size j rfl)
      generalize plainB nm = pb at *
      cases pb
      · have HR := Lib.hid (show RE = 6 by rw [HS.out, HRE.out]; rfl)
        have HV := Lib.hid (show E = 6 by rw [HE2.out, HR.out]; rfl)
        clear hxc
        go_wp2_with fail
        refine (HPl.out _).mono ?_; rintro e w5 ⟨rfl, hb5⟩
        go_wp2_with fail
        go_ret
        exact ⟨by rw [HV.out]; rfl, HB.out.trans ((HBa.out.trans (hb5.mono HBa.out.size)).mono HB.out.size)⟩
      · have HXc := Lib.hid hxc
        clear hxc
        have hsA : (wr.alloc (.cells #[Value.string (Bs nm), Value.int .i64 x0, Value.slice A2 x1 c2, Value.int .i64 x2, Value.int .i64 x3, Value.slice A3 x4 c3] 27)).heap.size = wr.heap.size + 1 := by simp
        have HsA := Lib.hid hsA
        clear hsA
        go_wp2_with fail
        refine (HPl.out _).mono ?_; rintro e w5 ⟨rfl, hb5⟩
        have HB5 := Lib.hid (HBa.out.trans (hb5.mono HBa.out.size))
        have HBw5 := Lib.hid (HB.out.trans (HB5.out.mono HB.out.size))
        have y := fun j => (hb5.cell (p := ⟨wr.heap.size, j, none⟩) (by rw [HsA.out]; exact Nat.lt_succ_self _)).trans (HXc.out j)
        have hlt5 : wr.heap.size < w5.heap.size := by have := hb5.size; rw [HsA.out] at this; omega
        have HHs := Lib.hid (hasRule_any (l.take i) nm wr.heap.size _ P w5 (HTk.out.later HBw5.out) (y 0) hlt5)
        have HY := Lib.hid y
        clear hb5 y
        have hic : i ≤ c := by omega
        have HF := Lib.hid (show (l.take i).any (fun x => x.1 == nm) = true → RE = 7 from fun h => by rw [HS.out, HRE.out, h]; rfl)
        have HG := Lib.hid (show (l.take i).any (fun x => x.1 == nm) = false → RE = if r ≠ 0 then r else rulesE (l.take (i + 1)) (l.drop (i + 1)) from fun h => by rw [HS.out, HRE.out, h]; rfl)
        generalize (l.take i).any (fun x => x.1 == nm) = res at *
        cases res
        · have HG2 := Lib.hid (HG.out rfl)
          go_wp2_with fail
          refine HHs.out.mono ?_; rintro e w6 ⟨rfl, hb6⟩
          have HBw6 := Lib.hid (HBw5.out.trans (hb6.mono HBw5.out.size))
          have hlt6 := Nat.lt_of_lt_of_le hlt5 hb6.size
          have y := fun j => (hb6.cell (p := ⟨wr.heap.size, j, none⟩) hlt5).trans (HY.out j)
          have y1 := y 1
          have y2 := y 2
          have y3 := y 3
          have y4 := y 4
          have y5 := y 5
          have HC6 := Lib.hid (HCd.out (w6.alloc (.cells #[Value.int .i64 0] 74)) w6.heap.size (HBw6.out.alloc HBw6.out.size _) HBw6.out.size (Blk.new w6 74 #[Value.int .i64 0]).row)
          have HB6a := Lib.hid (HBw6.out.alloc HBw6.out.size (.cells #[Value.int .i64 0] 74))
          clear hb6 y
          go_wp2_with fail
          refine HC6.out.mono ?_; rintro e w7 ⟨rfl, -, hg7⟩
          have HB7 := Lib.hid (HB6a.out.grown hg7 HB6a.out.size fun k hk => by injection hk with hk; rw [← hk]; exact HBw6.out.size)
          clear hg7
          by_cases r0 : r = 0
          · have u0 : (r != 0) = false := by simp; omega
            have HV := Lib.hid (show RE = rulesE (l.take (i + 1)) (l.drop (i + 1)) by rw [HG2.out]; simp [r0])
            clear r0
            go_wp2_with fail
            go_roundw
            case rel => exact ⟨i + 1, by omega, by go_num, HV.out, HB7.out⟩
            case measure => simp [intOf]; omega
          · have u0 : (r != 0) = true := by simp; omega
            have HR := Lib.hid (show RE = r by rw [HG2.out, if_pos r0])
            have HV := Lib.hid (show E = r by rw [HE2.out, HR.out, if_pos r0])
            go_wp2_with fail
            go_ret
            exact ⟨by rw [HV.out]; rfl, HB7.out⟩
        · have HR := Lib.hid (HF.out rfl)
          have HV := Lib.hid (show E = 7 by rw [HE2.out, HR.out]; rfl)
          go_wp2_with fail
          refine HHs.out.mono ?_; rintro e w6 ⟨rfl, hb6⟩
          have HBw6 := Lib.hid (HBw5.out.trans (hb6.mono HBw5.out.size))
          clear hb6
          go_wp2_with fail
          go_ret
          exact ⟨by rw [HV.out]; rfl, HBw6.out⟩
    · have t0 : decide ((i : Int) < (n : Int)) = false := by simp; omega
      obtain rfl : i = n := by omega
      have HR0 := Lib.hid (show RE = 0 by rw [HRe.out, HEn.out])
      have HP0 := Lib.hid (HPr.out HR0.out wr hb)
      have HE4 := Lib.hid (show E = if 4096 < PS.length then 2 else 0 by rw [HE2.out, HR0.out]; rfl)
      by_cases p4 : 4096 < PS.length
      · have u0 : decide ((PS.length : Int) > 4096) = true := by simp; omega
        have HV := Lib.hid (show E = 2 by rw [HE4.out, if_pos p4])
        go_wp2_with fail
        refine HP0.out.mono ?_; rintro e w5 ⟨rfl, hb5⟩
        go_wp2_with fail
        go_ret
        exact ⟨by rw [HV.out]; rfl, HB.out.trans (hb5.mono HB.out.size)⟩
      · have u0 : decide ((PS.length : Int) > 4096) = false := by simp; omega
        have HV := Lib.hid (show E = 0 by rw [HE4.out, if_neg p4])
        go_wp2_with fail
        refine HP0.out.mono ?_; rintro e w5 ⟨rfl, hb5⟩
        go_wp2_with fail
        go_ret
        exact ⟨by rw [HV.out]; rfl, HB.out.trans (hb5.mono HB.out.size)⟩
end Go.Proofs.YtonmpealebggoaaGreatDoor
