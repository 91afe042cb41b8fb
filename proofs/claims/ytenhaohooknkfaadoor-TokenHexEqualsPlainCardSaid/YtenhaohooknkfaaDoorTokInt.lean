/- The walks of integer and reference. -/
import Derived.Test.YtenhaohooknkfaaDoorTokClo
import Derived.Test.YtenhaohooknkfaaDoorTokAtoi
import Derived.Test.YtenhaohooknkfaaDoorTokText
import Derived.Lib.SmallJoins
namespace Go.Proofs.YtenhaohooknkfaaDoor
open Go.RowKit Tk
def intR (w : Src) : Value := match integer w with
  | .ok v => .tuple #[.int .i64 v, .int .i64 0]
  | .error e => .tuple #[.int .i64 0, .int .i64 e]
/-- The part of integer behind the sign, where it is a numeral. -/
theorem int_size (l : Src) : (⟨l.toArray⟩ : ByteArray).size = l.length := by simp [ByteArray.size]
theorem int_bys (l : Src) : bys ⟨l.toArray⟩ = l := by simp [bys]
set_option maxHeartbeats 4000000 in
theorem integer_any (x : UInt8) (r : Src) (w : World) (hl : r.length ≤ 100000) :
    Calls Tryd.prog 45 #[.string ⟨(x :: r).toArray⟩] w fun e w' => e = .returned (intR (x :: r)) ∧ Below w.heap.size w w' := by
  obtain ⟨S, hS⟩ : ∃ S : ByteArray, S = ⟨(x :: r).toArray⟩ := ⟨_, rfl⟩
  have hz : S.size = r.length + 1 := by rw [hS, int_size]; rfl
  have h0 : 0 < S.size := by omega
  have hx : S[0]'h0 = x := by subst hS; rfl
  have hi : (0 : Int) < (S.size : Int) := by omega
  rw [← hS]
  have HX := Lib.hid hx
  have HS := Lib.hid hS
  clear hS
  have hext : (S.extract 1 (r.length + 1)) = ⟨r.toArray⟩ := by
    rw [HS.out, ext_run, int_bys]; simp
  have HE := Lib.hid hext
  clear hext hx
  have hsz : (S.size : Int) = (r.length : Int) + 1 := by omega
  by_cases h43 : x = 43
  · have HDg : Hid (bys (S.extract 1 (r.length + 1)) = digs (x :: r)) := by unfold Hid; rw [HE.out, int_bys, h43]; rfl
    have q1 : (((S[0]'h0).toNat : Int) == 43) = true := by rw [HX.out, h43]; rfl
    clear h43
    go_enter Tryd.func45, Tryd.ntmps45
    go_upto_region 4 with (fail)
    generalize S.extract 1 (r.length + 1) = D at *
    have hDz : D.size = (digs (x :: r)).length := by rw [← bys_len, HDg.out]
    have HSs : Hid (S.size ≤ (digs (x :: r)).length + 1) := by
      unfold Hid digs
      rw [hz]
      split <;> simp
    have HB : Hid (bys S = x :: r) := by unfold Hid; rw [HS.out, int_bys]
    have HEm : Hid (D.toList.isEmpty = decide ((digs (x :: r)).length = 0)) := by
      unfold Hid
      rw [Lib.toList_data]
      have := HDg.out
      unfold bys at this
      rw [this]
      cases digs (x :: r) <;> rfl
    by_cases hn0 : (digs (x :: r)).length = 0
    · have HI : Hid (intR (x :: r) = .tuple #[.int .i64 0, .int .i64 5]) := by unfold Hid intR integer; rw [if_pos (.inl hn0)]
      have he := HEm.out
      rw [decide_eq_true hn0] at he
      clear hDz hn0
      go_wp2_with fail
      refine bodyPost_ret (v := .tuple #[.int .i64 0, .int .i64 5]) (by simp [results, Tryd.results45, go_sem]) rfl ?_
      exact ⟨by rw [HI.out], Below.refl _ _⟩
    · have he := HEm.out
      rw [decide_eq_false hn0] at he
      by_cases hn1 : 10 < (digs (x :: r)).length
      · have HI : Hid (intR (x :: r) = .tuple #[.int .i64 0, .int .i64 5]) := by unfold Hid intR integer; rw [if_pos (.inr (.inl hn1))]
        have hsz2 : (10 : Int) < (D.size : Int) := by omega
        clear hDz hn0 hn1
        go_wp2_with fail
        refine bodyPost_ret (v := .tuple #[.int .i64 0, .int .i64 5]) (by simp [results, Tryd.results45, go_sem]) rfl ?_
        exact ⟨by rw [HI.out], Below.refl _ _⟩
      · have hsz2 : ¬ (10 : Int) < (D.size : Int) := by omega
        have HH := Lib.hid fun W => hasI D W
        rw [HDg.out] at HH
        cases hal : (digs (x :: r)).all digit
        · have HI : Hid (intR (x :: r) = .tuple #[.int .i64 0, .int .i64 5]) := by unfold Hid intR integer; rw [if_pos (.inr (.inr hal))]
          rw [hal] at HH
          clear hDz hn0 hn1 hal
          go_wp2_with fail
          refine (HH.out _).mono ?_
          rintro e w2 ⟨rfl, hb2⟩
          have HB2 := Lib.hid hb2
          clear hb2
          go_wp2_with fail
          refine bodyPost_ret (v := .tuple #[.int .i64 0, .int .i64 5]) (by simp [results, Tryd.results45, go_sem]) rfl ?_
          exact ⟨by rw [HI.out], HB2.out⟩
        · have HA : Hid (∀ W, Calls Tryd.prog 58 #[.string S] W fun e w' => e = .returned (.tuple #[.int .i64 (intV (x :: r)), .nilIface]) ∧ Below W.heap.size W w') := fun W =>
            (strconv_Atoi S (intV (x :: r)) (by have := HSs.out; omega) (by show Lib.atoi (bys S) = _; rw [HB.out]; exact atoi_of hn0 hal) W).mono fun e w' ⟨a, t, b⟩ => ⟨a, by rw [b]; exact Go.Joins.below_bytesWorld _ W 5 t (Nat.le_refl _)⟩
          have HI : Hid (intR (x :: r) = if intV (x :: r) < -2147483647 ∨ 2147483647 < intV (x :: r) then .tuple #[.int .i64 0, .int .i64 3] else .tuple #[.int .i64 (intV (x :: r)), .int .i64 0]) := by
            unfold Hid intR integer
            rw [if_neg (fun e => by rcases e with e | e | e; exact hn0 e; exact hn1 e; rw [hal] at e; cases e)]
            split
            · rename_i v hv
              split at hv
              · cases hv
              · rename_i h1; cases hv; rw [if_neg h1]
            · rename_i v hv
              split at hv
              · rename_i h1; cases hv; rw [if_pos h1]
              · cases hv
          rw [hal] at HH
          generalize intV (x :: r) = v at *
          clear hDz hn0 hn1 hal
          by_cases hv1 : v < -2147483647
          · go_wp2_with fail
            refine (HH.out _).mono ?_
            rintro e w2 ⟨rfl, hb2⟩
            have HB2 := Lib.hid hb2
            clear hb2
            go_wp2_with fail
            refine (HA.out _).mono ?_
            rintro e w3 ⟨rfl, hb3⟩
            have HB3 := Lib.hid (HB2.out.trans (hb3.mono HB2.out.size))
            clear hb3
            go_wp2_with fail
            refine bodyPost_ret (v := .tuple #[.int .i64 0, .int .i64 3]) (by simp [results, Tryd.results45, go_sem]) rfl ?_
            exact ⟨by rw [HI.out, if_pos (.inl hv1)], HB3.out⟩
          · by_cases hv2 : 2147483647 < v
            · go_wp2_with fail
              refine (HH.out _).mono ?_
              rintro e w2 ⟨rfl, hb2⟩
              have HB2 := Lib.hid hb2
              clear hb2
              go_wp2_with fail
              refine (HA.out _).mono ?_
              rintro e w3 ⟨rfl, hb3⟩
              have HB3 := Lib.hid (HB2.out.trans (hb3.mono HB2.out.size))
              clear hb3
              go_wp2_with fail
              refine bodyPost_ret (v := .tuple #[.int .i64 0, .int .i64 3]) (by simp [results, Tryd.results45, go_sem]) rfl ?_
              exact ⟨by rw [HI.out, if_pos (.inr hv2)], HB3.out⟩
            · go_wp2_with fail
              refine (HH.out _).mono ?_
              rintro e w2 ⟨rfl, hb2⟩
              have HB2 := Lib.hid hb2
              clear hb2
              go_wp2_with fail
              refine (HA.out _).mono ?_
              rintro e w3 ⟨rfl, hb3⟩
              have HB3 := Lib.hid (HB2.out.trans (hb3.mono HB2.out.size))
              clear hb3
              go_wp2_with fail
              refine bodyPost_ret (v := .tuple #[.int .i64 v, .int .i64 0]) (by simp [results, Tryd.results45, go_sem]) rfl ?_
              exact ⟨by rw [HI.out, if_neg (by omega)], HB3.out⟩
  · have q1 : (((S[0]'h0).toNat : Int) == 43) = false := by have := bt_ne (S[0]'h0) 43 (by rw [HX.out]; exact h43); exact this
    by_cases h45 : x = 45
    · have HDg : Hid (bys (S.extract 1 (r.length + 1)) = digs (x :: r)) := by unfold Hid; rw [HE.out, int_bys, h45]; rfl
      have q2 : (((S[0]'h0).toNat : Int) == 45) = true := by rw [HX.out, h45]; rfl
      clear h43 h45
      go_enter Tryd.func45, Tryd.ntmps45
      go_upto_region 4 with (fail)
      generalize S.extract 1 (r.length + 1) = D at *
      have hDz : D.size = (digs (x :: r)).length := by rw [← bys_len, HDg.out]
      have HSs : Hid (S.size ≤ (digs (x :: r)).length + 1) := by
        unfold Hid digs
        rw [hz]
        split <;> simp
      have HB : Hid (bys S = x :: r) := by unfold Hid; rw [HS.out, int_bys]
      have HEm : Hid (D.toList.isEmpty = decide ((digs (x :: r)).length = 0)) := by
        unfold Hid
        rw [Lib.toList_data]
        have := HDg.out
        unfold bys at this
        rw [this]
        cases digs (x :: r) <;> rfl
      by_cases hn0 : (digs (x :: r)).length = 0
      · have HI : Hid (intR (x :: r) = .tuple #[.int .i64 0, .int .i64 5]) := by unfold Hid intR integer; rw [if_pos (.inl hn0)]
        have he := HEm.out
        rw [decide_eq_true hn0] at he
        clear hDz hn0
        go_wp2_with fail
        refine bodyPost_ret (v := .tuple #[.int .i64 0, .int .i64 5]) (by simp [results, Tryd.results45, go_sem]) rfl ?_
        exact ⟨by rw [HI.out], Below.refl _ _⟩
      · have he := HEm.out
        rw [decide_eq_false hn0] at he
        by_cases hn1 : 10 < (digs (x :: r)).length
        · have HI : Hid (intR (x :: r) = .tuple #[.int .i64 0, .int .i64 5]) := by unfold Hid intR integer; rw [if_pos (.inr (.inl hn1))]
          have hsz2 : (10 : Int) < (D.size : Int) := by omega
          clear hDz hn0 hn1
          go_wp2_with fail
          refine bodyPost_ret (v := .tuple #[.int .i64 0, .int .i64 5]) (by simp [results, Tryd.results45, go_sem]) rfl ?_
          exact ⟨by rw [HI.out], Below.refl _ _⟩
        · have hsz2 : ¬ (10 : Int) < (D.size : Int) := by omega
          have HH := Lib.hid fun W => hasI D W
          rw [HDg.out] at HH
          cases hal : (digs (x :: r)).all digit
          · have HI : Hid (intR (x :: r) = .tuple #[.int .i64 0, .int .i64 5]) := by unfold Hid intR integer; rw [if_pos (.inr (.inr hal))]
            rw [hal] at HH
            clear hDz hn0 hn1 hal
            go_wp2_with fail
            refine (HH.out _).mono ?_
            rintro e w2 ⟨rfl, hb2⟩
            have HB2 := Lib.hid hb2
            clear hb2
            go_wp2_with fail
            refine bodyPost_ret (v := .tuple #[.int .i64 0, .int .i64 5]) (by simp [results, Tryd.results45, go_sem]) rfl ?_
            exact ⟨by rw [HI.out], HB2.out⟩
          · have HA : Hid (∀ W, Calls Tryd.prog 58 #[.string S] W fun e w' => e = .returned (.tuple #[.int .i64 (intV (x :: r)), .nilIface]) ∧ Below W.heap.size W w') := fun W =>
              (strconv_Atoi S (intV (x :: r)) (by have := HSs.out; omega) (by show Lib.atoi (bys S) = _; rw [HB.out]; exact atoi_of hn0 hal) W).mono fun e w' ⟨a, t, b⟩ => ⟨a, by rw [b]; exact Go.Joins.below_bytesWorld _ W 5 t (Nat.le_refl _)⟩
            have HI : Hid (intR (x :: r) = if intV (x :: r) < -2147483647 ∨ 2147483647 < intV (x :: r) then .tuple #[.int .i64 0, .int .i64 3] else .tuple #[.int .i64 (intV (x :: r)), .int .i64 0]) := by
              unfold Hid intR integer
              rw [if_neg (fun e => by rcases e with e | e | e; exact hn0 e; exact hn1 e; rw [hal] at e; cases e)]
              split
              · rename_i v hv
                split at hv
                · cases hv
                · rename_i h1; cases hv; rw [if_neg h1]
              · rename_i v hv
                split at hv
                · rename_i h1; cases hv; rw [if_pos h1]
                · cases hv
            rw [hal] at HH
            generalize intV (x :: r) = v at *
            clear hDz hn0 hn1 hal
            by_cases hv1 : v < -2147483647
            · go_wp2_with fail
              refine (HH.out _).mono ?_
              rintro e w2 ⟨rfl, hb2⟩
              have HB2 := Lib.hid hb2
              clear hb2
              go_wp2_with fail
              refine (HA.out _).mono ?_
              rintro e w3 ⟨rfl, hb3⟩
              have HB3 := Lib.hid (HB2.out.trans (hb3.mono HB2.out.size))
              clear hb3
              go_wp2_with fail
              refine bodyPost_ret (v := .tuple #[.int .i64 0, .int .i64 3]) (by simp [results, Tryd.results45, go_sem]) rfl ?_
              exact ⟨by rw [HI.out, if_pos (.inl hv1)], HB3.out⟩
            · by_cases hv2 : 2147483647 < v
              · go_wp2_with fail
                refine (HH.out _).mono ?_
                rintro e w2 ⟨rfl, hb2⟩
                have HB2 := Lib.hid hb2
                clear hb2
                go_wp2_with fail
                refine (HA.out _).mono ?_
                rintro e w3 ⟨rfl, hb3⟩
                have HB3 := Lib.hid (HB2.out.trans (hb3.mono HB2.out.size))
                clear hb3
                go_wp2_with fail
                refine bodyPost_ret (v := .tuple #[.int .i64 0, .int .i64 3]) (by simp [results, Tryd.results45, go_sem]) rfl ?_
                exact ⟨by rw [HI.out, if_pos (.inr hv2)], HB3.out⟩
              · go_wp2_with fail
                refine (HH.out _).mono ?_
                rintro e w2 ⟨rfl, hb2⟩
                have HB2 := Lib.hid hb2
                clear hb2
                go_wp2_with fail
                refine (HA.out _).mono ?_
                rintro e w3 ⟨rfl, hb3⟩
                have HB3 := Lib.hid (HB2.out.trans (hb3.mono HB2.out.size))
                clear hb3
                go_wp2_with fail
                refine bodyPost_ret (v := .tuple #[.int .i64 v, .int .i64 0]) (by simp [results, Tryd.results45, go_sem]) rfl ?_
                exact ⟨by rw [HI.out, if_neg (by omega)], HB3.out⟩
    · have q2 : (((S[0]'h0).toNat : Int) == 45) = false := by have := bt_ne (S[0]'h0) 45 (by rw [HX.out]; exact h45); exact this
      have HDg : Hid (bys S = digs (x :: r)) := by
        unfold Hid
        rw [HS.out, int_bys]
        unfold digs signed
        simp [h43, h45]
      clear h43 h45
      go_enter Tryd.func45, Tryd.ntmps45
      go_upto_region 4 with (fail)
      have hDz : S.size = (digs (x :: r)).length := by rw [← bys_len, HDg.out]
      have HSs : Hid (S.size ≤ (digs (x :: r)).length + 1) := by
        unfold Hid digs
        rw [hz]
        split <;> simp
      have HB : Hid (bys S = x :: r) := by unfold Hid; rw [HS.out, int_bys]
      have HEm : Hid (S.toList.isEmpty = decide ((digs (x :: r)).length = 0)) := by
        unfold Hid
        rw [Lib.toList_data]
        have := HDg.out
        unfold bys at this
        rw [this]
        cases digs (x :: r) <;> rfl
      by_cases hn0 : (digs (x :: r)).length = 0
      · have HI : Hid (intR (x :: r) = .tuple #[.int .i64 0, .int .i64 5]) := by unfold Hid intR integer; rw [if_pos (.inl hn0)]
        have he := HEm.out
        rw [decide_eq_true hn0] at he
        clear hDz hn0
        go_wp2_with fail
        refine bodyPost_ret (v := .tuple #[.int .i64 0, .int .i64 5]) (by simp [results, Tryd.results45, go_sem]) rfl ?_
        exact ⟨by rw [HI.out], Below.refl _ _⟩
      · have he := HEm.out
        rw [decide_eq_false hn0] at he
        by_cases hn1 : 10 < (digs (x :: r)).length
        · have HI : Hid (intR (x :: r) = .tuple #[.int .i64 0, .int .i64 5]) := by unfold Hid intR integer; rw [if_pos (.inr (.inl hn1))]
          have hsz2 : (10 : Int) < (S.size : Int) := by omega
          clear hDz hn0 hn1
          go_wp2_with fail
          refine bodyPost_ret (v := .tuple #[.int .i64 0, .int .i64 5]) (by simp [results, Tryd.results45, go_sem]) rfl ?_
          exact ⟨by rw [HI.out], Below.refl _ _⟩
        · have hsz2 : ¬ (10 : Int) < (S.size : Int) := by omega
          have HH := Lib.hid fun W => hasI S W
          rw [HDg.out] at HH
          cases hal : (digs (x :: r)).all digit
          · have HI : Hid (intR (x :: r) = .tuple #[.int .i64 0, .int .i64 5]) := by unfold Hid intR integer; rw [if_pos (.inr (.inr hal))]
            rw [hal] at HH
            clear hDz hn0 hn1 hal
            go_wp2_with fail
            refine (HH.out _).mono ?_
            rintro e w2 ⟨rfl, hb2⟩
            have HB2 := Lib.hid hb2
            clear hb2
            go_wp2_with fail
            refine bodyPost_ret (v := .tuple #[.int .i64 0, .int .i64 5]) (by simp [results, Tryd.results45, go_sem]) rfl ?_
            exact ⟨by rw [HI.out], HB2.out⟩
          · have HA : Hid (∀ W, Calls Tryd.prog 58 #[.string S] W fun e w' => e = .returned (.tuple #[.int .i64 (intV (x :: r)), .nilIface]) ∧ Below W.heap.size W w') := fun W =>
              (strconv_Atoi S (intV (x :: r)) (by have := HSs.out; omega) (by show Lib.atoi (bys S) = _; rw [HB.out]; exact atoi_of hn0 hal) W).mono fun e w' ⟨a, t, b⟩ => ⟨a, by rw [b]; exact Go.Joins.below_bytesWorld _ W 5 t (Nat.le_refl _)⟩
            have HI : Hid (intR (x :: r) = if intV (x :: r) < -2147483647 ∨ 2147483647 < intV (x :: r) then .tuple #[.int .i64 0, .int .i64 3] else .tuple #[.int .i64 (intV (x :: r)), .int .i64 0]) := by
              unfold Hid intR integer
              rw [if_neg (fun e => by rcases e with e | e | e; exact hn0 e; exact hn1 e; rw [hal] at e; cases e)]
              split
              · rename_i v hv
                split at hv
                · cases hv
                · rename_i h1; cases hv; rw [if_neg h1]
              · rename_i v hv
                split at hv
                · rename_i h1; cases hv; rw [if_pos h1]
                · cases hv
            rw [hal] at HH
            generalize intV (x :: r) = v at *
            clear hDz hn0 hn1 hal
            by_cases hv1 : v < -2147483647
            · go_wp2_with fail
              refine (HH.out _).mono ?_
              rintro e w2 ⟨rfl, hb2⟩
              have HB2 := Lib.hid hb2
              clear hb2
              go_wp2_with fail
              refine (HA.out _).mono ?_
              rintro e w3 ⟨rfl, hb3⟩
              have HB3 := Lib.hid (HB2.out.trans (hb3.mono HB2.out.size))
              clear hb3
              go_wp2_with fail
              refine bodyPost_ret (v := .tuple #[.int .i64 0, .int .i64 3]) (by simp [results, Tryd.results45, go_sem]) rfl ?_
              exact ⟨by rw [HI.out, if_pos (.inl hv1)], HB3.out⟩
            · by_cases hv2 : 2147483647 < v
              · go_wp2_with fail
                refine (HH.out _).mono ?_
                rintro e w2 ⟨rfl, hb2⟩
                have HB2 := Lib.hid hb2
                clear hb2
                go_wp2_with fail
                refine (HA.out _).mono ?_
                rintro e w3 ⟨rfl, hb3⟩
                have HB3 := Lib.hid (HB2.out.trans (hb3.mono HB2.out.size))
                clear hb3
                go_wp2_with fail
                refine bodyPost_ret (v := .tuple #[.int .i64 0, .int .i64 3]) (by simp [results, Tryd.results45, go_sem]) rfl ?_
                exact ⟨by rw [HI.out, if_pos (.inr hv2)], HB3.out⟩
              · go_wp2_with fail
                refine (HH.out _).mono ?_
                rintro e w2 ⟨rfl, hb2⟩
                have HB2 := Lib.hid hb2
                clear hb2
                go_wp2_with fail
                refine (HA.out _).mono ?_
                rintro e w3 ⟨rfl, hb3⟩
                have HB3 := Lib.hid (HB2.out.trans (hb3.mono HB2.out.size))
                clear hb3
                go_wp2_with fail
                refine bodyPost_ret (v := .tuple #[.int .i64 v, .int .i64 0]) (by simp [results, Tryd.results45, go_sem]) rfl ?_
                exact ⟨by rw [HI.out, if_neg (by omega)], HB3.out⟩
end Go.Proofs.YtenhaohooknkfaaDoor
