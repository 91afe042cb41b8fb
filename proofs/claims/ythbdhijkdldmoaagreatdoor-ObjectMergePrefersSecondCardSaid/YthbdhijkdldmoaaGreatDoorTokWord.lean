/- The walks of integer and reference. The walk of the cursor's hex. The walk of the cursor's name. The walk of word. The walk of reference (printed by gen_ref.py). -/
import Derived.Test.YthbdhijkdldmoaaGreatDoorTokText
import Derived.Lib.SmallJoins
import Derived.Handy
namespace Go.Proofs.YthbdhijkdldmoaaGreatDoor
open Go.RowKit Tk
def intR (w : Tk.Src) : Value := match integer w with
  | .ok v => .tuple #[.int .i64 v, .int .i64 0]
  | .error e => .tuple #[.int .i64 0, .int .i64 e]
/-- The part of integer behind the sign, where it is a numeral. -/
theorem int_size (l : Tk.Src) : (⟨l.toArray⟩ : ByteArray).size = l.length := by simp [ByteArray.size]
theorem int_bys (l : Tk.Src) : bys ⟨l.toArray⟩ = l := by simp [bys]
set_option maxHeartbeats 4000000 in
theorem integer_any (x : UInt8) (r : Tk.Src) (w : World) (hl : r.length ≤ 100000) :
    Calls Tryz.prog 105 #[.string ⟨(x :: r).toArray⟩] w fun e w' => e = .returned (intR (x :: r)) ∧ Below w.heap.size w w' := by
  obtain ⟨S, hS⟩ : ∃ S : ByteArray, S = ⟨(x :: r).toArray⟩ := ⟨_, rfl⟩
  have hz : S.size = r.length + 1 := by rw [hS, int_size]; rfl
  have h0 : 0 < S.size := by omega
  have hx : S[0]'h0 = x := by subst hS; rfl
  have hi : (0 : Int) < (S.size : Int) := by omega
  rw [← hS]
  have HX := Lib.hid hx
  have HS := Lib.hid hS
  clear hS
  have hext : (S.extract 1 (r.length + 1)) = ⟨r.toArray⟩ := by
    rw [HS.out, ext_run, int_bys]; simp
  have HE := Lib.hid hext
  clear hext hx
  have hsz : (S.size : Int) = (r.length : Int) + 1 := by omega
  by_cases h43 : x = 43
  · have HDg : Hid (bys (S.extract 1 (r.length + 1)) = digs (x :: r)) := by unfold Hid; rw [HE.out, int_bys, h43]; rfl
    have q1 : (((S[0]'h0).toNat : Int) == 43) = true := by rw [HX.out, h43]; rfl
    clear h43
    go_enter Tryz.func105, Tryz.ntmps105
    go_upto_region 4 with (fail)
    generalize S.extract 1 (r.length + 1) = D at *
    have hDz : D.size = (digs (x :: r)).length := by rw [← bys_len, HDg.out]
    have HSs : Hid (S.size ≤ (digs (x :: r)).length + 1) := by
      unfold Hid digs
      rw [hz]
      split <;> simp
    have HB : Hid (bys S = x :: r) := by unfold Hid; rw [HS.out, int_bys]
    have HEm : Hid (D.toList.isEmpty = decide ((digs (x :: r)).length = 0)) := by
      unfold Hid
      rw [Lib.toList_data]
      have := HDg.out
      unfold bys at this
      rw [this]
      cases digs (x :: r) <;> rfl
    by_cases hn0 : (digs (x :: r)).length = 0
    · have HI : Hid (intR (x :: r) = .tuple #[.int .i64 0, .int .i64 5]) := by unfold Hid intR integer; rw [if_pos (.inl hn0)]
      have he := HEm.out
      rw [decide_eq_true hn0] at he
      clear hDz hn0
      go_wp2_with fail
      refine bodyPost_ret (v := .tuple #[.int .i64 0, .int .i64 5]) (by simp [results, Tryz.results105, go_sem]) rfl ?_
      exact ⟨by rw [HI.out], Below.refl _ _⟩
    · have he := HEm.out
      rw [decide_eq_false hn0] at he
      by_cases hn1 : 10 < (digs (x :: r)).length
      · have HI : Hid (intR (x :: r) = .tuple #[.int .i64 0, .int .i64 5]) := by unfold Hid intR integer; rw [if_pos (.inr (.inl hn1))]
        have hsz2 : (10 : Int) < (D.size : Int) := by omega
        clear hDz hn0 hn1
        go_wp2_with fail
        refine bodyPost_ret (v := .tuple #[.int .i64 0, .int .i64 5]) (by simp [results, Tryz.results105, go_sem]) rfl ?_
        exact ⟨by rw [HI.out], Below.refl _ _⟩
      · have hsz2 : ¬ (10 : Int) < (D.size : Int) := by omega
        have HH := Lib.hid fun W => hasI D W
        rw [HDg.out] at HH
        cases hal : (digs (x :: r)).all digit
        · have HI : Hid (intR (x :: r) = .tuple #[.int .i64 0, .int .i64 5]) := by unfold Hid intR integer; rw [if_pos (.inr (.inr hal))]
          rw [hal] at HH
          clear hDz hn0 hn1 hal
          go_wp2_with fail
          refine (HH.out _).mono ?_
          rintro e w2 ⟨rfl, hb2⟩
          have HB2 := Lib.hid hb2
          clear hb2
          go_wp2_with fail
          refine bodyPost_ret (v := .tuple #[.int .i64 0, .int .i64 5]) (by simp [results, Tryz.results105, go_sem]) rfl ?_
          exact ⟨by rw [HI.out], HB2.out⟩
        · have HA : Hid (∀ W, Calls Tryz.prog 59 #[.string S] W fun e w' => e = .returned (.tuple #[.int .i64 (intV (x :: r)), .nilIface]) ∧ Below W.heap.size W w') := fun W =>
            (strconv_Atoi S (intV (x :: r)) (by have := HSs.out; omega) (by show Lib.atoi (bys S) = _; rw [HB.out]; exact atoi_of hn0 hal) W).mono fun e w' ⟨a, t, b⟩ => ⟨a, by rw [b]; exact Go.Joins.below_bytesWorld _ W 5 t (Nat.le_refl _)⟩
          have HI : Hid (intR (x :: r) = if intV (x :: r) < -2147483647 ∨ 2147483647 < intV (x :: r) then .tuple #[.int .i64 0, .int .i64 3] else .tuple #[.int .i64 (intV (x :: r)), .int .i64 0]) := by
            unfold Hid intR integer
            rw [if_neg (fun e => by rcases e with e | e | e; exact hn0 e; exact hn1 e; rw [hal] at e; cases e)]
            split
            · rename_i v hv
              split at hv
              · cases hv
              · rename_i h1; cases hv; rw [if_neg h1]
            · rename_i v hv
              split at hv
              · rename_i h1; cases hv; rw [if_pos h1]
              · cases hv
          rw [hal] at HH
          generalize intV (x :: r) = v at *
          clear hDz hn0 hn1 hal
          by_cases hv1 : v < -2147483647
          · go_wp2_with fail
            refine (HH.out _).mono ?_
            rintro e w2 ⟨rfl, hb2⟩
            have HB2 := Lib.hid hb2
            clear hb2
            go_wp2_with fail
            refine (HA.out _).mono ?_
            rintro e w3 ⟨rfl, hb3⟩
            have HB3 := Lib.hid (HB2.out.trans (hb3.mono HB2.out.size))
            clear hb3
            go_wp2_with fail
            refine bodyPost_ret (v := .tuple #[.int .i64 0, .int .i64 3]) (by simp [results, Tryz.results105, go_sem]) rfl ?_
            exact ⟨by rw [HI.out, if_pos (.inl hv1)], HB3.out⟩
          · by_cases hv2 : 2147483647 < v
            · go_wp2_with fail
              refine (HH.out _).mono ?_
              rintro e w2 ⟨rfl, hb2⟩
              have HB2 := Lib.hid hb2
              clear hb2
              go_wp2_with fail
              refine (HA.out _).mono ?_
              rintro e w3 ⟨rfl, hb3⟩
              have HB3 := Lib.hid (HB2.out.trans (hb3.mono HB2.out.size))
              clear hb3
              go_wp2_with fail
              refine bodyPost_ret (v := .tuple #[.int .i64 0, .int .i64 3]) (by simp [results, Tryz.results105, go_sem]) rfl ?_
              exact ⟨by rw [HI.out, if_pos (.inr hv2)], HB3.out⟩
            · go_wp2_with fail
              refine (HH.out _).mono ?_
              rintro e w2 ⟨rfl, hb2⟩
              have HB2 := Lib.hid hb2
              clear hb2
              go_wp2_with fail
              refine (HA.out _).mono ?_
              rintro e w3 ⟨rfl, hb3⟩
              have HB3 := Lib.hid (HB2.out.trans (hb3.mono HB2.out.size))
              clear hb3
              go_wp2_with fail
              refine bodyPost_ret (v := .tuple #[.int .i64 v, .int .i64 0]) (by simp [results, Tryz.results105, go_sem]) rfl ?_
              exact ⟨by rw [HI.out, if_neg (by omega)], HB3.out⟩
  · have q1 : (((S[0]'h0).toNat : Int) == 43) = false := by have := bt_ne (S[0]'h0) 43 (by rw [HX.out]; exact h43); exact this
    by_cases h45 : x = 45
    · have HDg : Hid (bys (S.extract 1 (r.length + 1)) = digs (x :: r)) := by unfold Hid; rw [HE.out, int_bys, h45]; rfl
      have q2 : (((S[0]'h0).toNat : Int) == 45) = true := by rw [HX.out, h45]; rfl
      clear h43 h45
      go_enter Tryz.func105, Tryz.ntmps105
      go_upto_region 4 with (fail)
      generalize S.extract 1 (r.length + 1) = D at *
      have hDz : D.size = (digs (x :: r)).length := by rw [← bys_len, HDg.out]
      have HSs : Hid (S.size ≤ (digs (x :: r)).length + 1) := by
        unfold Hid digs
        rw [hz]
        split <;> simp
      have HB : Hid (bys S = x :: r) := by unfold Hid; rw [HS.out, int_bys]
      have HEm : Hid (D.toList.isEmpty = decide ((digs (x :: r)).length = 0)) := by
        unfold Hid
        rw [Lib.toList_data]
        have := HDg.out
        unfold bys at this
        rw [this]
        cases digs (x :: r) <;> rfl
      by_cases hn0 : (digs (x :: r)).length = 0
      · have HI : Hid (intR (x :: r) = .tuple #[.int .i64 0, .int .i64 5]) := by unfold Hid intR integer; rw [if_pos (.inl hn0)]
        have he := HEm.out
        rw [decide_eq_true hn0] at he
        clear hDz hn0
        go_wp2_with fail
        refine bodyPost_ret (v := .tuple #[.int .i64 0, .int .i64 5]) (by simp [results, Tryz.results105, go_sem]) rfl ?_
        exact ⟨by rw [HI.out], Below.refl _ _⟩
      · have he := HEm.out
        rw [decide_eq_false hn0] at he
        by_cases hn1 : 10 < (digs (x :: r)).length
        · have HI : Hid (intR (x :: r) = .tuple #[.int .i64 0, .int .i64 5]) := by unfold Hid intR integer; rw [if_pos (.inr (.inl hn1))]
          have hsz2 : (10 : Int) < (D.size : Int) := by omega
          clear hDz hn0 hn1
          go_wp2_with fail
          refine bodyPost_ret (v := .tuple #[.int .i64 0, .int .i64 5]) (by simp [results, Tryz.results105, go_sem]) rfl ?_
          exact ⟨by rw [HI.out], Below.refl _ _⟩
        · have hsz2 : ¬ (10 : Int) < (D.size : Int) := by omega
          have HH := Lib.hid fun W => hasI D W
          rw [HDg.out] at HH
          cases hal : (digs (x :: r)).all digit
          · have HI : Hid (intR (x :: r) = .tuple #[.int .i64 0, .int .i64 5]) := by unfold Hid intR integer; rw [if_pos (.inr (.inr hal))]
            rw [hal] at HH
            clear hDz hn0 hn1 hal
            go_wp2_with fail
            refine (HH.out _).mono ?_
            rintro e w2 ⟨rfl, hb2⟩
            have HB2 := Lib.hid hb2
            clear hb2
            go_wp2_with fail
            refine bodyPost_ret (v := .tuple #[.int .i64 0, .int .i64 5]) (by simp [results, Tryz.results105, go_sem]) rfl ?_
            exact ⟨by rw [HI.out], HB2.out⟩
          · have HA : Hid (∀ W, Calls Tryz.prog 59 #[.string S] W fun e w' => e = .returned (.tuple #[.int .i64 (intV (x :: r)), .nilIface]) ∧ Below W.heap.size W w') := fun W =>
              (strconv_Atoi S (intV (x :: r)) (by have := HSs.out; omega) (by show Lib.atoi (bys S) = _; rw [HB.out]; exact atoi_of hn0 hal) W).mono fun e w' ⟨a, t, b⟩ => ⟨a, by rw [b]; exact Go.Joins.below_bytesWorld _ W 5 t (Nat.le_refl _)⟩
            have HI : Hid (intR (x :: r) = if intV (x :: r) < -2147483647 ∨ 2147483647 < intV (x :: r) then .tuple #[.int .i64 0, .int .i64 3] else .tuple #[.int .i64 (intV (x :: r)), .int .i64 0]) := by
              unfold Hid intR integer
              rw [if_neg (fun e => by rcases e with e | e | e; exact hn0 e; exact hn1 e; rw [hal] at e; cases e)]
              split
              · rename_i v hv
                split at hv
                · cases hv
                · rename_i h1; cases hv; rw [if_neg h1]
              · rename_i v hv
                split at hv
                · rename_i h1; cases hv; rw [if_pos h1]
                · cases hv
            rw [hal] at HH
            generalize intV (x :: r) = v at *
            clear hDz hn0 hn1 hal
            by_cases hv1 : v < -2147483647
            · go_wp2_with fail
              refine (HH.out _).mono ?_
              rintro e w2 ⟨rfl, hb2⟩
              have HB2 := Lib.hid hb2
              clear hb2
              go_wp2_with fail
              refine (HA.out _).mono ?_
              rintro e w3 ⟨rfl, hb3⟩
              have HB3 := Lib.hid (HB2.out.trans (hb3.mono HB2.out.size))
              clear hb3
              go_wp2_with fail
              refine bodyPost_ret (v := .tuple #[.int .i64 0, .int .i64 3]) (by simp [results, Tryz.results105, go_sem]) rfl ?_
              exact ⟨by rw [HI.out, if_pos (.inl hv1)], HB3.out⟩
            · by_cases hv2 : 2147483647 < v
              · go_wp2_with fail
                refine (HH.out _).mono ?_
                rintro e w2 ⟨rfl, hb2⟩
                have HB2 := Lib.hid hb2
                clear hb2
                go_wp2_with fail
                refine (HA.out _).mono ?_
                rintro e w3 ⟨rfl, hb3⟩
                have HB3 := Lib.hid (HB2.out.trans (hb3.mono HB2.out.size))
                clear hb3
                go_wp2_with fail
                refine bodyPost_ret (v := .tuple #[.int .i64 0, .int .i64 3]) (by simp [results, Tryz.results105, go_sem]) rfl ?_
                exact ⟨by rw [HI.out, if_pos (.inr hv2)], HB3.out⟩
              · go_wp2_with fail
                refine (HH.out _).mono ?_
                rintro e w2 ⟨rfl, hb2⟩
                have HB2 := Lib.hid hb2
                clear hb2
                go_wp2_with fail
                refine (HA.out _).mono ?_
                rintro e w3 ⟨rfl, hb3⟩
                have HB3 := Lib.hid (HB2.out.trans (hb3.mono HB2.out.size))
                clear hb3
                go_wp2_with fail
                refine bodyPost_ret (v := .tuple #[.int .i64 v, .int .i64 0]) (by simp [results, Tryz.results105, go_sem]) rfl ?_
                exact ⟨by rw [HI.out, if_neg (by omega)], HB3.out⟩
    · have q2 : (((S[0]'h0).toNat : Int) == 45) = false := by have := bt_ne (S[0]'h0) 45 (by rw [HX.out]; exact h45); exact this
      have HDg : Hid (bys S = digs (x :: r)) := by
        unfold Hid
        rw [HS.out, int_bys]
        unfold digs signed
        simp [h43, h45]
      clear h43 h45
      go_enter Tryz.func105, Tryz.ntmps105
      go_upto_region 4 with (fail)
      have hDz : S.size = (digs (x :: r)).length := by rw [← bys_len, HDg.out]
      have HSs : Hid (S.size ≤ (digs (x :: r)).length + 1) := by
        unfold Hid digs
        rw [hz]
        split <;> simp
      have HB : Hid (bys S = x :: r) := by unfold Hid; rw [HS.out, int_bys]
      have HEm : Hid (S.toList.isEmpty = decide ((digs (x :: r)).length = 0)) := by
        unfold Hid
        rw [Lib.toList_data]
        have := HDg.out
        unfold bys at this
        rw [this]
        cases digs (x :: r) <;> rfl
      by_cases hn0 : (digs (x :: r)).length = 0
      · have HI : Hid (intR (x :: r) = .tuple #[.int .i64 0, .int .i64 5]) := by unfold Hid intR integer; rw [if_pos (.inl hn0)]
        have he := HEm.out
        rw [decide_eq_true hn0] at he
        clear hDz hn0
        go_wp2_with fail
        refine bodyPost_ret (v := .tuple #[.int .i64 0, .int .i64 5]) (by simp [results, Tryz.results105, go_sem]) rfl ?_
        exact ⟨by rw [HI.out], Below.refl _ _⟩
      · have he := HEm.out
        rw [decide_eq_false hn0] at he
        by_cases hn1 : 10 < (digs (x :: r)).length
        · have HI : Hid (intR (x :: r) = .tuple #[.int .i64 0, .int .i64 5]) := by unfold Hid intR integer; rw [if_pos (.inr (.inl hn1))]
          have hsz2 : (10 : Int) < (S.size : Int) := by omega
          clear hDz hn0 hn1
          go_wp2_with fail
          refine bodyPost_ret (v := .tuple #[.int .i64 0, .int .i64 5]) (by simp [results, Tryz.results105, go_sem]) rfl ?_
          exact ⟨by rw [HI.out], Below.refl _ _⟩
        · have hsz2 : ¬ (10 : Int) < (S.size : Int) := by omega
          have HH := Lib.hid fun W => hasI S W
          rw [HDg.out] at HH
          cases hal : (digs (x :: r)).all digit
          · have HI : Hid (intR (x :: r) = .tuple #[.int .i64 0, .int .i64 5]) := by unfold Hid intR integer; rw [if_pos (.inr (.inr hal))]
            rw [hal] at HH
            clear hDz hn0 hn1 hal
            go_wp2_with fail
            refine (HH.out _).mono ?_
            rintro e w2 ⟨rfl, hb2⟩
            have HB2 := Lib.hid hb2
            clear hb2
            go_wp2_with fail
            refine bodyPost_ret (v := .tuple #[.int .i64 0, .int .i64 5]) (by simp [results, Tryz.results105, go_sem]) rfl ?_
            exact ⟨by rw [HI.out], HB2.out⟩
          · have HA : Hid (∀ W, Calls Tryz.prog 59 #[.string S] W fun e w' => e = .returned (.tuple #[.int .i64 (intV (x :: r)), .nilIface]) ∧ Below W.heap.size W w') := fun W =>
              (strconv_Atoi S (intV (x :: r)) (by have := HSs.out; omega) (by show Lib.atoi (bys S) = _; rw [HB.out]; exact atoi_of hn0 hal) W).mono fun e w' ⟨a, t, b⟩ => ⟨a, by rw [b]; exact Go.Joins.below_bytesWorld _ W 5 t (Nat.le_refl _)⟩
            have HI : Hid (intR (x :: r) = if intV (x :: r) < -2147483647 ∨ 2147483647 < intV (x :: r) then .tuple #[.int .i64 0, .int .i64 3] else .tuple #[.int .i64 (intV (x :: r)), .int .i64 0]) := by
              unfold Hid intR integer
              rw [if_neg (fun e => by rcases e with e | e | e; exact hn0 e; exact hn1 e; rw [hal] at e; cases e)]
              split
              · rename_i v hv
                split at hv
                · cases hv
                · rename_i h1; cases hv; rw [if_neg h1]
              · rename_i v hv
                split at hv
                · rename_i h1; cases hv; rw [if_pos h1]
                · cases hv
            rw [hal] at HH
            generalize intV (x :: r) = v at *
            clear hDz hn0 hn1 hal
            by_cases hv1 : v < -2147483647
            · go_wp2_with fail
              refine (HH.out _).mono ?_
              rintro e w2 ⟨rfl, hb2⟩
              have HB2 := Lib.hid hb2
              clear hb2
              go_wp2_with fail
              refine (HA.out _).mono ?_
              rintro e w3 ⟨rfl, hb3⟩
              have HB3 := Lib.hid (HB2.out.trans (hb3.mono HB2.out.size))
              clear hb3
              go_wp2_with fail
              refine bodyPost_ret (v := .tuple #[.int .i64 0, .int .i64 3]) (by simp [results, Tryz.results105, go_sem]) rfl ?_
              exact ⟨by rw [HI.out, if_pos (.inl hv1)], HB3.out⟩
            · by_cases hv2 : 2147483647 < v
              · go_wp2_with fail
                refine (HH.out _).mono ?_
                rintro e w2 ⟨rfl, hb2⟩
                have HB2 := Lib.hid hb2
                clear hb2
                go_wp2_with fail
                refine (HA.out _).mono ?_
                rintro e w3 ⟨rfl, hb3⟩
                have HB3 := Lib.hid (HB2.out.trans (hb3.mono HB2.out.size))
                clear hb3
                go_wp2_with fail
                refine bodyPost_ret (v := .tuple #[.int .i64 0, .int .i64 3]) (by simp [results, Tryz.results105, go_sem]) rfl ?_
                exact ⟨by rw [HI.out, if_pos (.inr hv2)], HB3.out⟩
              · go_wp2_with fail
                refine (HH.out _).mono ?_
                rintro e w2 ⟨rfl, hb2⟩
                have HB2 := Lib.hid hb2
                clear hb2
                go_wp2_with fail
                refine (HA.out _).mono ?_
                rintro e w3 ⟨rfl, hb3⟩
                have HB3 := Lib.hid (HB2.out.trans (hb3.mono HB2.out.size))
                clear hb3
                go_wp2_with fail
                refine bodyPost_ret (v := .tuple #[.int .i64 v, .int .i64 0]) (by simp [results, Tryz.results105, go_sem]) rfl ?_
                exact ⟨by rw [HI.out, if_neg (by omega)], HB3.out⟩
end Go.Proofs.YthbdhijkdldmoaaGreatDoor
namespace Go.Proofs.YthbdhijkdldmoaaGreatDoor
open Go.RowKit Tk
set_option maxHeartbeats 8000000 in
theorem hex_str (S : ByteArray) (cb p : Nat) (w : World) (h : Cu w cb S p) (hp : p ≤ S.size) (hs : S.size ≤ 100000) :
    Calls Tryz.prog 110 #[.pointer (some ⟨cb, 0, none⟩)] w (TxtPost S cb p (hex ((bys S).drop p)) w) := by
  have hcl := h.cells.2.2.2
  have hb1 := (FrS.refl w.heap.size (fun k => k = cb) w).alloc (Nat.le_refl _) (.cells #[.pointer none, .slice none 0 0] 77)
  have hc1 := Blk.alloc h (.cells #[.pointer none, .slice none 0 0] 77)
  have hk1 : Pk (w.heap.size + 1) w.heap.size [] (w.alloc (.cells #[.pointer none, .slice none 0 0] 77)) := pk_fresh (Blk.new w _ _)
  have hs1 : Hid ((w.alloc (.cells #[.pointer none, .slice none 0 0] 77)).heap.size = w.heap.size + 1) := by unfold Hid; simp
  have HB1 := Lib.hid hb1
  have HC1 : Hid (Cu (w.alloc (.cells #[.pointer none, .slice none 0 0] 77)) cb S p) := hc1
  have HK1 := Lib.hid hk1
  have HPost : Hid (∀ e w', TxtPost S cb p (hex ((bys S).drop p)) w e w' → TxtPost S cb p (hex ((bys S).drop p)) w e w') := fun _ _ h => h
  have HTx : Hid (hex ((bys S).drop p) = hexL 0 false ((bys S).drop p) [] 0) := rfl
  generalize hex ((bys S).drop p) = T at *
  clear h hb1 hc1 hk1
  go_enter Tryz.func110, Tryz.ntmps110
  go_wp2_with fail
  generalize w.alloc (.cells #[.pointer none, .slice none 0 0] 77) = w1 at *
  go_loopw [6, 5] (fun v6 v5 wq => True ∧ ∃ (q d n0 : Nat) (hh : UInt8) (acc : Tk.Src), v6 = .int .i64 d ∧ v5 = .int .u8 (bt hh) ∧ bt hh ≤ 15 ∧ d ≤ n0 ∧ q ≤ S.size ∧ q = p + n0 ∧ acc.length ≤ n0 ∧ Cu wq cb S q ∧ Pk (w.heap.size + 1) w.heap.size acc wq ∧ hexL hh (d % 2 == 1) ((bys S).drop q) acc n0 = T ∧ FrS w.heap.size (fun k => k = cb) w wq ∧ w.heap.size + 1 ≤ wq.heap.size) (fun _ _ wq => S.size - (intOf ((wq.cell? ⟨cb, 1, none⟩).getD .nilIface)).toNat)
  case atStart => exact ⟨trivial, p, 0, 0, 0, [], rfl, rfl, by decide, Nat.le_refl _, hp, rfl, Nat.le_refl _, HC1.out, HK1.out, HTx.out.symm, HB1.out, by rw [hs1.out]; exact Nat.le_refl _⟩
  case round =>
    obtain ⟨-, q, d, n0, hh, acc, rfl, rfl, hh15, hdn, hq, hqn, hal, hcu, hpk, htx, hfr, hsz⟩ := hrel
    have HQn := Lib.hid hqn
    have hn0 : n0 ≤ q := by omega
    clear hqn
    obtain ⟨c0, c1, cf, cl⟩ := hcu.cells
    have HCu := Lib.hid hcu
    have HFr := Lib.hid hfr
    have HTe := Lib.hid htx
    have HWB : Hid (∀ W c, FrS wr.heap.size (fun k => k = cb) wr W → Calls Tryz.prog 43 #[.pointer (some ⟨w.heap.size, 0, none⟩), .int .u8 (bt c)] W fun e w' => e = .returned .nilIface ∧ Pk (w.heap.size + 1) w.heap.size (acc ++ [c]) w' ∧ FrX (w.heap.size + 1) w.heap.size W w') := fun W c hf =>
      (pk_byte (hpk.fr hf (Nat.le_refl _) fun k e => by omega) c (bt c) rfl (by omega) (Nat.le_trans hsz hf.size)).mono fun _ _ h => ⟨h.1, h.2.1, h.2.2.1⟩
    have HKeep : Hid (∀ W, FrS wr.heap.size (fun k => k = cb) wr W → Pk (w.heap.size + 1) w.heap.size acc W) := fun W hf => hpk.fr hf (Nat.le_refl _) fun k e => by omega
    have HPk := Lib.hid hpk
    have HMea : Hid (∀ W : World, Cu W cb S (q + 1) → q < S.size → S.size - (intOf ((W.cell? ⟨cb, 1, none⟩).getD .nilIface)).toNat < S.size - (intOf ((wr.cell? ⟨cb, 1, none⟩).getD .nilIface)).toNat) := fun W h hq => by
      rw [h.cells.2.1, c1]
      simp [intOf]; omega
    clear hcu hfr htx hpk
    by_cases hlt : q < S.size
    · have hi1 : (q : Int) < (S.size : Int) := by omega
      have hdt : decide ((q : Int) < (S.size : Int)) = true := decide_eq_true hi1
      have HDr := Lib.hid (drop_byte S q hlt)
      rw [HDr.out] at HTe
      have HMea := Lib.hid fun W h => HMea.out W h hlt
      have HPut : Hid (∀ n, Cu ((wr.drewN n).setCell ⟨cb, 1, none⟩ (.int .i64 ((q : Int) + 1))) cb S (q + 1) ∧ FrS wr.heap.size (fun k => k = cb) wr ((wr.drewN n).setCell ⟨cb, 1, none⟩ (.int .i64 ((q : Int) + 1)))) := fun n =>
        ⟨Cu.put (w := wr.drewN n) HCu.out (q + 1), ((FrS.refl wr.heap.size (fun k => k = cb) wr).drewN n).put (p := ⟨cb, 1, none⟩) (.inr rfl) _⟩
      have HFin : Hid (∀ W w', FrS wr.heap.size (fun k => k = cb) wr W → Cu W cb S (q + 1) → FrX (w.heap.size + 1) w.heap.size W w' → FrS w.heap.size (fun k => k = cb) w w' ∧ Cu w' cb S (q + 1) ∧ w.heap.size + 1 ≤ w'.heap.size) := fun W w' h1 h2 h3 =>
        ⟨(HFr.out.trans (h1.weak (by omega) fun _ _ e => e)).trans (FrS.weak (FrS.of_x (S := fun k => k = w.heap.size) h3 rfl) (Nat.le_succ _) fun k hk e => by omega), Cu.fr h2 (FrS.of_x (S := fun k => k = w.heap.size) h3 rfl) (by omega) (by omega), by have := h1.size; have := h3.size; omega⟩
      have HPz : Hid (∀ n, FrS w.heap.size (fun k => k = cb) w ((wr.drewN n).setCell ⟨cb, 1, none⟩ (.int .i64 ((q : Int) + 1)))) := fun n => HFr.out.trans ((HPut.out n).2.weak (by omega) fun _ _ e => e)
      have HPs : Hid (∀ n, w.heap.size + 1 ≤ ((wr.drewN n).setCell ⟨cb, 1, none⟩ (.int .i64 ((q : Int) + 1))).heap.size) := fun n => Nat.le_trans hsz (HPut.out n).2.size
      have HWh := Lib.hid fun W => white_any (S[q]'hlt) W
      have HHx := Lib.hid fun W => hex_any (S[q]'hlt) W
      by_cases hw : white (S[q]'hlt) = true
      · have HSt : Hid (hexL hh (d % 2 == 1) ((bys S).drop (q + 1)) acc (n0 + 1) = T) := by
          unfold Hid
          rw [← HTe.out, hexL, if_pos hw]
        rw [hw] at HWh
        clear hw HHx
        go_wp2_with fail
        go_quiet (fail)
        go_wp2_with fail
        go_quiet (fail)
        go_wp2_with fail
        refine (HWh.out _).mono ?_
        rintro e w2 ⟨rfl, rfl⟩
        go_wp2_with fail
        exact ⟨⟨trivial, q + 1, d, n0 + 1, hh, acc, rfl, rfl, by omega, by omega, by omega, by have := HQn.out; omega, by omega, (HPut.out _).1, HKeep.out _ (HPut.out _).2, HSt.out, HPz.out _, HPs.out _⟩, HMea.out _ (HPut.out _).1⟩
      · replace hw : white (S[q]'hlt) = false := by simpa using hw
        by_cases ho : d % 2 = 1
        · replace ho : (d % 2 == 1) = true := by simpa using ho
          have ho2 : d % 2 = 1 := by have := beq_iff_eq (a := d % 2) (b := 1); simp at ho; omega
          have he : ((d % 2 == 1)) = true := ho
          have he2 : ((d + 1) % 2 == 1) = false := by simp; omega
          have hr1 : Int.tmod (d : Int) 2 = 1 := by rw [show (2 : Int) = ((2 : Nat) : Int) from rfl, ← Int.ofNat_tmod, ho2]; rfl
          have hr2 : Int.tmod ((d : Int) + 1) 2 = 0 := by rw [show (2 : Int) = ((2 : Nat) : Int) from rfl, show (d : Int) + 1 = ((d + 1 : Nat) : Int) from rfl, ← Int.ofNat_tmod, show (d + 1) % 2 = 0 by omega]; rfl
          by_cases h62 : S[q]'hlt = 62
          · have q62 : (((S[q]'hlt).toNat : Int) == 62) = true := by rw [h62]; rfl
            clear h62
            cases hhv : hexV (S[q]'hlt) with
            | none =>
              have HSt : Hid (T = .error 5) := by
                unfold Hid
                rw [← HTe.out, hexL, if_neg (by rw [hw]; decide), if_neg (by rw [ho]; simp), hhv]
              rw [hw] at HWh
              have hxe : hexR (S[q]'hlt) = .tuple #[.int .u8 0, .bool false] := by unfold hexR; rw [hhv]
              rw [hxe] at HHx
              clear hw hhv hxe
              go_wp2_with fail
              go_quiet (fail)
              go_wp2_with fail
              go_quiet (fail)
              go_wp2_with fail
              refine (HWh.out _).mono ?_
              rintro e w2 ⟨rfl, rfl⟩
              go_wp2_with fail
              refine (HHx.out _).mono ?_
              rintro e w2 ⟨rfl, rfl⟩
              go_wp2_with fail
              refine bodyPost_ret (v := .tuple #[.string ⟨#[]⟩, .int .i64 5]) (by simp [results, Tryz.results110, go_sem]) rfl ?_
              exact txt_bad HSt.out (HPz.out _) rfl
            | some v =>
              have hv15 : bt v ≤ 15 := by
                obtain ⟨v', ok, e1, b1, t1, f1⟩ := hex_two (S[q]'hlt)
                cases ok with
                | true => rw [hhv] at t1; rw [Option.some.inj (t1 rfl)]; exact b1
                | false => rw [hhv] at f1; cases f1 rfl
              have hnn := (bt_nn v).1
              have hnh := (bt_nn hh).1
              have HSt : Hid (hexL v ((d + 1) % 2 == 1) ((bys S).drop (q + 1)) (acc ++ [hh <<< 4 ||| v]) (n0 + 1) = T) := by
                unfold Hid
                rw [← HTe.out, hexL, if_neg (by rw [hw]; decide), if_neg (by rw [ho]; simp), hhv]
                dsimp only
                rw [if_pos ho, he2]
              rw [hw] at HWh
              have hxe : hexR (S[q]'hlt) = .tuple #[.int .u8 (bt v), .bool true] := by unfold hexR; rw [hhv]
              rw [hxe] at HHx
              clear hw hhv hxe
              have hor := or_hex hh v hh15 hv15
              go_wp2_with fail
              go_quiet (fail)
              go_wp2_with fail
              go_quiet (fail)
              go_wp2_with fail
              refine (HWh.out _).mono ?_
              rintro e w2 ⟨rfl, rfl⟩
              go_wp2_with fail
              refine (HHx.out _).mono ?_
              rintro e w2 ⟨rfl, rfl⟩
              go_wp2_with fail
              refine (HWB.out _ (hh <<< 4 ||| v) (HPut.out _).2).mono ?_
              rintro e w2 ⟨rfl, hpk2, hfx⟩
              obtain ⟨hf2, hc2, hs2⟩ := HFin.out _ _ (HPut.out _).2 (HPut.out _).1 hfx
              have HF2 := Lib.hid hf2
              have HC2 := Lib.hid hc2
              have HPk2 := Lib.hid hpk2
              have HMe := Lib.hid (HMea.out _ hc2)
              clear hf2 hc2 hpk2 hfx
              go_wp2_with fail
              refine ⟨⟨trivial, q + 1, d + 1, n0 + 1, v, acc ++ [hh <<< 4 ||| v], by go_num, rfl, by omega, by omega, by omega, by have := HQn.out; omega, by rw [List.length_append, List.length_singleton]; omega, HC2.out, HPk2.out, HSt.out, HF2.out, hs2⟩, HMe.out⟩
          · have q62 : (((S[q]'hlt).toNat : Int) == 62) = false := bt_ne (S[q]'hlt) 62 h62
            clear h62
            cases hhv : hexV (S[q]'hlt) with
            | none =>
              have HSt : Hid (T = .error 5) := by
                unfold Hid
                rw [← HTe.out, hexL, if_neg (by rw [hw]; decide), if_neg (by rw [ho]; simp), hhv]
              rw [hw] at HWh
              have hxe : hexR (S[q]'hlt) = .tuple #[.int .u8 0, .bool false] := by unfold hexR; rw [hhv]
              rw [hxe] at HHx
              clear hw hhv hxe
              go_wp2_with fail
              go_quiet (fail)
              go_wp2_with fail
              go_quiet (fail)
              go_wp2_with fail
              refine (HWh.out _).mono ?_
              rintro e w2 ⟨rfl, rfl⟩
              go_wp2_with fail
              refine (HHx.out _).mono ?_
              rintro e w2 ⟨rfl, rfl⟩
              go_wp2_with fail
              refine bodyPost_ret (v := .tuple #[.string ⟨#[]⟩, .int .i64 5]) (by simp [results, Tryz.results110, go_sem]) rfl ?_
              exact txt_bad HSt.out (HPz.out _) rfl
            | some v =>
              have hv15 : bt v ≤ 15 := by
                obtain ⟨v', ok, e1, b1, t1, f1⟩ := hex_two (S[q]'hlt)
                cases ok with
                | true => rw [hhv] at t1; rw [Option.some.inj (t1 rfl)]; exact b1
                | false => rw [hhv] at f1; cases f1 rfl
              have hnn := (bt_nn v).1
              have hnh := (bt_nn hh).1
              have HSt : Hid (hexL v ((d + 1) % 2 == 1) ((bys S).drop (q + 1)) (acc ++ [hh <<< 4 ||| v]) (n0 + 1) = T) := by
                unfold Hid
                rw [← HTe.out, hexL, if_neg (by rw [hw]; decide), if_neg (by rw [ho]; simp), hhv]
                dsimp only
                rw [if_pos ho, he2]
              rw [hw] at HWh
              have hxe : hexR (S[q]'hlt) = .tuple #[.int .u8 (bt v), .bool true] := by unfold hexR; rw [hhv]
              rw [hxe] at HHx
              clear hw hhv hxe
              have hor := or_hex hh v hh15 hv15
              go_wp2_with fail
              go_quiet (fail)
              go_wp2_with fail
              go_quiet (fail)
              go_wp2_with fail
              refine (HWh.out _).mono ?_
              rintro e w2 ⟨rfl, rfl⟩
              go_wp2_with fail
              refine (HHx.out _).mono ?_
              rintro e w2 ⟨rfl, rfl⟩
              go_wp2_with fail
              refine (HWB.out _ (hh <<< 4 ||| v) (HPut.out _).2).mono ?_
              rintro e w2 ⟨rfl, hpk2, hfx⟩
              obtain ⟨hf2, hc2, hs2⟩ := HFin.out _ _ (HPut.out _).2 (HPut.out _).1 hfx
              have HF2 := Lib.hid hf2
              have HC2 := Lib.hid hc2
              have HPk2 := Lib.hid hpk2
              have HMe := Lib.hid (HMea.out _ hc2)
              clear hf2 hc2 hpk2 hfx
              go_wp2_with fail
              refine ⟨⟨trivial, q + 1, d + 1, n0 + 1, v, acc ++ [hh <<< 4 ||| v], by go_num, rfl, by omega, by omega, by omega, by have := HQn.out; omega, by rw [List.length_append, List.length_singleton]; omega, HC2.out, HPk2.out, HSt.out, HF2.out, hs2⟩, HMe.out⟩
        · replace ho : (d % 2 == 1) = false := by simpa using ho
          have ho2 : d % 2 = 0 := by have := beq_iff_eq (a := d % 2) (b := 1); simp at ho; omega
          have he : ((d % 2 == 1)) = false := ho
          have he2 : ((d + 1) % 2 == 1) = true := by simp; omega
          have hr1 : Int.tmod (d : Int) 2 = 0 := by rw [show (2 : Int) = ((2 : Nat) : Int) from rfl, ← Int.ofNat_tmod, ho2]; rfl
          have hr2 : Int.tmod ((d : Int) + 1) 2 = 1 := by rw [show (2 : Int) = ((2 : Nat) : Int) from rfl, show (d : Int) + 1 = ((d + 1 : Nat) : Int) from rfl, ← Int.ofNat_tmod, show (d + 1) % 2 = 1 by omega]; rfl
          by_cases h62 : S[q]'hlt = 62
          · have HSt : Hid (T = limited acc 1024 (n0 + 1)) := by
              unfold Hid
              rw [← HTe.out, hexL, if_neg (by rw [hw]; decide), if_pos (by rw [he]; simp [h62])]
            have q62 : (((S[q]'hlt).toNat : Int) == 62) = true := by rw [h62]; rfl
            rw [hw] at HWh
            clear hw HHx h62
            have HLim := Lib.hid fun W => limited_any acc 1024 W
            by_cases hL : 1024 < acc.length
            · have HLm := Lib.hid hL
              rw [if_pos hL, if_pos hL] at HLim
              clear hL
              go_wp2_with fail
              go_quiet (fail)
              go_wp2_with fail
              go_quiet (fail)
              go_wp2_with fail
              refine (HWh.out _).mono ?_
              rintro e w2 ⟨rfl, rfl⟩
              go_wp2_with fail
              refine (pk_string (HKeep.out _ (HPut.out _).2)).mono ?_
              rintro e w2 ⟨rfl, hfx⟩
              obtain ⟨hf2, hc2, hs2⟩ := HFin.out _ _ (HPut.out _).2 (HPut.out _).1 hfx
              have HF3 := Lib.hid hf2
              have HC3 := Lib.hid hc2
              clear hf2 hc2 hfx
              generalize hsv : (⟨acc.toArray⟩ : ByteArray) = sv at *
              have HSv := Lib.hid hsv
              clear hsv
              go_wp2_with fail
              refine (HLim.out _).mono ?_
              rintro e w3 ⟨rfl, rfl⟩
              go_wp2_with fail
              refine bodyPost_ret (v := .tuple #[.string ⟨#[]⟩, .int .i64 2]) (by simp [results, Tryz.results110, go_sem]) rfl ?_
              exact txt_bad (by rw [HSt.out]; unfold limited; rw [if_pos HLm.out]) HF3.out rfl
            · have HLm := Lib.hid hL
              rw [if_neg hL, if_neg hL] at HLim
              clear hL
              go_wp2_with fail
              go_quiet (fail)
              go_wp2_with fail
              go_quiet (fail)
              go_wp2_with fail
              refine (HWh.out _).mono ?_
              rintro e w2 ⟨rfl, rfl⟩
              go_wp2_with fail
              refine (pk_string (HKeep.out _ (HPut.out _).2)).mono ?_
              rintro e w2 ⟨rfl, hfx⟩
              obtain ⟨hf2, hc2, hs2⟩ := HFin.out _ _ (HPut.out _).2 (HPut.out _).1 hfx
              have HF3 := Lib.hid hf2
              have HC3 := Lib.hid hc2
              clear hf2 hc2 hfx
              generalize hsv : (⟨acc.toArray⟩ : ByteArray) = sv at *
              have HSv := Lib.hid hsv
              clear hsv
              go_wp2_with fail
              refine (HLim.out _).mono ?_
              rintro e w3 ⟨rfl, rfl⟩
              go_wp2_with fail
              refine bodyPost_ret (v := .tuple #[.string sv, .int .i64 0]) (by simp [results, Tryz.results110, go_sem]) rfl ?_
              rw [← HSv.out]
              exact txt_ok (t := acc) (n := n0 + 1) (by rw [HSt.out]; unfold limited; rw [if_neg HLm.out]) HF3.out rfl (by have := HQn.out; rw [show p + (n0 + 1) = q + 1 by omega]; exact HC3.out)
          · have q62 : (((S[q]'hlt).toNat : Int) == 62) = false := bt_ne (S[q]'hlt) 62 h62
            cases hhv : hexV (S[q]'hlt) with
            | none =>
              have HSt : Hid (T = .error 5) := by
                unfold Hid
                rw [← HTe.out, hexL, if_neg (by rw [hw]; decide), if_neg (by simpa using fun e => (h62 e).elim), hhv]
              rw [hw] at HWh
              have hxe : hexR (S[q]'hlt) = .tuple #[.int .u8 0, .bool false] := by unfold hexR; rw [hhv]
              rw [hxe] at HHx
              clear hw hhv hxe
              go_wp2_with fail
              go_quiet (fail)
              go_wp2_with fail
              go_quiet (fail)
              go_wp2_with fail
              refine (HWh.out _).mono ?_
              rintro e w2 ⟨rfl, rfl⟩
              go_wp2_with fail
              refine (HHx.out _).mono ?_
              rintro e w2 ⟨rfl, rfl⟩
              go_wp2_with fail
              refine bodyPost_ret (v := .tuple #[.string ⟨#[]⟩, .int .i64 5]) (by simp [results, Tryz.results110, go_sem]) rfl ?_
              exact txt_bad HSt.out (HPz.out _) rfl
            | some v =>
              have hv15 : bt v ≤ 15 := by
                obtain ⟨v', ok, e1, b1, t1, f1⟩ := hex_two (S[q]'hlt)
                cases ok with
                | true => rw [hhv] at t1; rw [Option.some.inj (t1 rfl)]; exact b1
                | false => rw [hhv] at f1; cases f1 rfl
              have hnn := (bt_nn v).1
              have hnh := (bt_nn hh).1
              have HSt : Hid (hexL v ((d + 1) % 2 == 1) ((bys S).drop (q + 1)) acc (n0 + 1) = T) := by
                unfold Hid
                rw [← HTe.out, hexL, if_neg (by rw [hw]; decide), if_neg (by simpa using fun e => (h62 e).elim), hhv]
                dsimp only
                rw [if_neg (by rw [ho]; decide), he2]
              rw [hw] at HWh
              have hxe : hexR (S[q]'hlt) = .tuple #[.int .u8 (bt v), .bool true] := by unfold hexR; rw [hhv]
              rw [hxe] at HHx
              clear hw hhv hxe
              go_wp2_with fail
              go_quiet (fail)
              go_wp2_with fail
              go_quiet (fail)
              go_wp2_with fail
              refine (HWh.out _).mono ?_
              rintro e w2 ⟨rfl, rfl⟩
              go_wp2_with fail
              refine (HHx.out _).mono ?_
              rintro e w2 ⟨rfl, rfl⟩
              go_wp2_with fail
              exact ⟨⟨trivial, q + 1, d + 1, n0 + 1, v, acc, by go_num, rfl, by omega, by omega, by omega, by have := HQn.out; omega, by omega, (HPut.out _).1, HKeep.out _ (HPut.out _).2, HSt.out, HPz.out _, HPs.out _⟩, HMea.out _ (HPut.out _).1⟩
    · have hqe : q = S.size := by omega
      have HSt : Hid (T = .error 12) := by
        unfold Hid
        rw [← HTe.out, List.drop_eq_nil_of_le (by rw [bys_len]; omega)]; rfl
      subst hqe
      clear hlt
      go_wp2_with fail
      go_quiet (fail)
      go_wp2_with fail
      refine bodyPost_ret (v := .tuple #[.string ⟨#[]⟩, .int .i64 12]) (by simp [results, Tryz.results110, go_sem]) rfl ?_
      exact txt_bad HSt.out (HFr.out.drewN _) rfl
end Go.Proofs.YthbdhijkdldmoaaGreatDoor
namespace Go.Proofs.YthbdhijkdldmoaaGreatDoor
open Go.RowKit Tk
def nameT (l : Tk.Src) : Res Tk.Src := match nameW (run l) with | .error e => .error e | .ok t => .ok (t, (run l).length)
set_option maxHeartbeats 8000000 in
theorem name_any (S : ByteArray) (cb p : Nat) (w : World) (h : Cu w cb S p) (hp : p ≤ S.size) (hs : S.size ≤ 100000) :
    Calls Tryz.prog 107 #[.pointer (some ⟨cb, 0, none⟩)] w (TxtPost S cb p (nameT ((bys S).drop p)) w) := by
  have HR := Lib.hid (run_any S cb p w h hp (by omega))
  have hW : (run ((bys S).drop p)).length ≤ 100000 := by have := run_len ((bys S).drop p); rw [List.length_drop, bys_len] at this; omega
  have HN : Hid (nameT ((bys S).drop p) = match nameW (run ((bys S).drop p)) with | .error e => .error e | .ok t => .ok (t, (run ((bys S).drop p)).length)) := rfl
  generalize nameT ((bys S).drop p) = T at *
  generalize run ((bys S).drop p) = W at *
  have hcl := h.cells.2.2.2
  obtain ⟨V, hV⟩ : ∃ V : ByteArray, V = ⟨W.toArray⟩ := ⟨_, rfl⟩
  have hVz : V.size ≤ 100000 := by rw [hV, int_size]; exact hW
  have HVb : Hid (bys V = W) := by unfold Hid; rw [hV, int_bys]
  rw [← hV] at HR
  clear h hV
  go_enter Tryz.func107, Tryz.ntmps107
  go_wp2_with fail
  refine HR.out.mono ?_
  rintro e w1 ⟨rfl, hc1, hf1⟩
  have hz1 := hf1.size
  have HC1 := Lib.hid hc1
  have HF1 := Lib.hid hf1
  clear hc1 hf1
  go_wp2_with fail
  have hbx : FrS w1.heap.size (fun _ => False) w1 ((w1.alloc (.cells #[.string V, .int .i64 0] 116)).alloc (.cells #[.pointer none, .slice none 0 0] 77)) := ((FrS.refl w1.heap.size (fun _ => False) w1).alloc (Nat.le_refl _) _).alloc (by simp) _
  have hcu0 : Cu ((w1.alloc (.cells #[.string V, .int .i64 0] 116)).alloc (.cells #[.pointer none, .slice none 0 0] 77)) w1.heap.size V 0 := Blk.alloc (Blk.new w1 _ _) _
  have hpk0 : Pk (w1.heap.size + 2) (w1.heap.size + 1) [] ((w1.alloc (.cells #[.string V, .int .i64 0] 116)).alloc (.cells #[.pointer none, .slice none 0 0] 77)) := pk_fresh (by have := Blk.new (w1.alloc (.cells #[.string V, .int .i64 0] 116)) 77 #[.pointer none, .slice none 0 0]; simpa using this)
  have hsz0 : w1.heap.size + 2 ≤ ((w1.alloc (.cells #[.string V, .int .i64 0] 116)).alloc (.cells #[.pointer none, .slice none 0 0] 77)).heap.size := by simp
  generalize (w1.alloc (.cells #[.string V, .int .i64 0] 116)).alloc (.cells #[.pointer none, .slice none 0 0] 77) = w2 at *
  have HX := Lib.hid hbx
  have HU := Lib.hid hcu0
  have HK := Lib.hid hpk0
  have HT : Hid (nameW W = match nameF (((bys V).drop 0).length + 1) ((bys V).drop 0) [] with | .error e => .error e | .ok acc => if acc.length = 0 then .error 5 else if 31 < acc.length then .error 2 else .ok acc) := by
    unfold Hid
    rw [List.drop_zero, HVb.out]; rfl
  have hWl : W.length = V.size := by rw [← HVb.out, bys_len]
  clear hbx hcu0 hpk0
  generalize hB : w1.heap.size = B at *
  have HBq := Lib.hid hB
  clear hB
  generalize hT2 : nameF (((bys V).drop 0).length + 1) ((bys V).drop 0) [] = T2 at *
  have HT2 := Lib.hid hT2
  clear hT2
  go_loopw [] (fun wq => True ∧ ∃ (q f : Nat) (acc : Tk.Src), q ≤ V.size ∧ acc.length ≤ q ∧ Cu wq B V q ∧ Pk (B + 2) (B + 1) acc wq ∧ ((bys V).drop q).length < f ∧ nameF f ((bys V).drop q) acc = T2 ∧ FrS B (fun _ => False) w1 wq ∧ B + 2 ≤ wq.heap.size) (fun wq => V.size - (intOf ((wq.cell? ⟨B, 1, none⟩).getD .nilIface)).toNat)
  case atStart => exact ⟨trivial, 0, ((bys V).drop 0).length + 1, [], Nat.zero_le _, Nat.le_refl _, HU.out, HK.out, by omega, HT2.out, HX.out, hsz0⟩
  case round =>
    obtain ⟨-, q, f, acc, hq, hal, hcu, hpk, hfu, htx, hfr, hsz⟩ := hrel
    obtain ⟨g, rfl⟩ : ∃ g, f = g + 1 := ⟨f - 1, by omega⟩
    obtain ⟨c0, c1, cf, cl⟩ := hcu.cells
    have HCu := Lib.hid hcu
    have HFr := Lib.hid hfr
    have HTe := Lib.hid htx
    have HPk := Lib.hid hpk
    have HWB : Hid (∀ W c, FrS wr.heap.size (fun k => k = B) wr W → Calls Tryz.prog 43 #[.pointer (some ⟨B + 1, 0, none⟩), .int .u8 (bt c)] W fun e w' => e = .returned .nilIface ∧ Pk (B + 2) (B + 1) (acc ++ [c]) w' ∧ FrX (B + 2) (B + 1) W w') := fun W c hf =>
      (pk_byte (hpk.fr hf (Nat.le_refl _) fun k e => by omega) c (bt c) rfl (by omega) (Nat.le_trans hsz hf.size)).mono fun _ _ h => ⟨h.1, h.2.1, h.2.2.1⟩
    have HMea : Hid (∀ (W : World) (j : Nat), Cu W B V j → q < j → q < V.size → V.size - (intOf ((W.cell? ⟨B, 1, none⟩).getD .nilIface)).toNat < V.size - (intOf ((wr.cell? ⟨B, 1, none⟩).getD .nilIface)).toNat) := fun W j h hj hq => by
      rw [h.cells.2.1, c1]
      simp [intOf]; omega
    clear hcu hfr htx hpk
    by_cases hlt : q < V.size
    · have hi1 : (q : Int) < (V.size : Int) := by omega
      have hdt : decide ((q : Int) < (V.size : Int)) = true := decide_eq_true hi1
      have HDr := Lib.hid (drop_byte V q hlt)
      have hfu2 : ((bys V).drop (q + 1)).length < g := by have := congrArg List.length (drop_byte V q hlt); rw [List.length_cons] at this; omega
      rw [HDr.out] at HTe
      have HPut : Hid (Cu (wr.setCell ⟨B, 1, none⟩ (.int .i64 ((q : Int) + 1))) B V (q + 1) ∧ FrS wr.heap.size (fun k => k = B) wr (wr.setCell ⟨B, 1, none⟩ (.int .i64 ((q : Int) + 1)))) :=
        ⟨Cu.put HCu.out (q + 1), (FrS.refl wr.heap.size (fun k => k = B) wr).put (p := ⟨B, 1, none⟩) (.inr rfl) _⟩
      have HFin : Hid (∀ W w' j, FrS wr.heap.size (fun k => k = B) wr W → Cu W B V j → FrX (B + 2) (B + 1) W w' → FrS B (fun _ => False) w1 w' ∧ Cu w' B V j ∧ B + 2 ≤ w'.heap.size) := fun W w' j h1 h2 h3 =>
        ⟨(HFr.out.trans (h1.weak (by omega) fun k hk e => by omega)).trans (FrS.weak (FrS.of_x (S := fun k => k = B + 1) h3 rfl) (by omega) fun k hk e => by omega), Cu.fr h2 (FrS.of_x (S := fun k => k = B + 1) h3 rfl) (by omega) (by omega), by have := h1.size; have := h3.size; omega⟩
      have hxn := (bt_nn (V[q]'hlt)).1
      have HEr : Hid (∀ W, FrS wr.heap.size (fun k => k = B) wr W → FrS w.heap.size (fun k => k = cb) w W) := fun W h => HF1.out.trans ((HFr.out.trans (h.weak (by omega) fun k hk e => by omega)).weak (by have := HBq.out; omega) fun _ _ e => e.elim)
      by_cases hx35 : V[q]'hlt = 35
      · have q35 : (((V[q]'hlt).toNat : Int) == 35) = true := by rw [hx35]; rfl
        have HPr : Hid (Calls Tryz.prog 124 #[.pointer (some ⟨B, 0, none⟩)] (wr.setCell ⟨B, 1, none⟩ (.int .i64 ((q : Int) + 1))) (PairPost V B (q + 1) (wr.setCell ⟨B, 1, none⟩ (.int .i64 ((q : Int) + 1))))) := pair_any V B (q + 1) _ HPut.out.1 (by omega) (by omega)
        unfold PairPost at HPr
        have HTx2 : Hid (T2 = match pairV ((bys V).drop (q + 1)) with | none => .error 5 | some v => if v == 0 then .error 5 else nameF g (((bys V).drop (q + 1)).drop 2) (acc ++ [v])) := by
          unfold Hid
          rw [← HTe.out, nameF, if_pos (by simpa using hx35)]
          cases pairV ((bys V).drop (q + 1)) <;> rfl
        clear hx35
        cases hpv : pairV ((bys V).drop (q + 1)) with
        | none =>
          rw [hpv] at HPr HTx2
          have HSt : Hid (T2 = .error 5) := HTx2.out
          clear hpv HTx2
          go_wp2_with fail
          refine HPr.out.mono ?_
          rintro e w3 ⟨r, ok, rfl, ht, -, hf3⟩
          cases ok with
          | true => obtain ⟨v, h, _⟩ := ht rfl; cases h
          | false =>
            have HF3 := Lib.hid (HPut.out.2.trans (hf3.weak (R' := wr.heap.size) (S' := fun k => k = B) (by have := HPut.out.2.size; exact this) fun _ _ e => e))
            clear ht hf3
            go_wp2_with fail
            refine bodyPost_ret (v := .tuple #[.string ⟨#[]⟩, .int .i64 5]) (by simp [results, Tryz.results107, go_sem]) rfl ?_
            exact txt_bad (by rw [HN.out, HT.out, HSt.out]) (HEr.out _ HF3.out) rfl
        | some v =>
          rw [hpv] at HPr HTx2
          dsimp only at HTx2
          have hk1 : q + 3 ≤ V.size := by
            have : 2 ≤ ((bys V).drop (q + 1)).length := by
              match (bys V).drop (q + 1), hpv with
              | a :: b :: r, _ => simp
            rw [List.length_drop, bys_len] at this; omega
          have hlt3 : ((bys V).drop (q + 1 + 2)).length < g := by rw [List.length_drop, bys_len] at hfu2 ⊢; omega
          rw [List.drop_drop] at HTx2
          clear hpv
          by_cases hv0 : v = 0
          · have HSt : Hid (T2 = .error 5) := by unfold Hid; rw [HTx2.out, if_pos (by simpa using hv0)]
            clear HTx2
            go_wp2_with fail
            refine HPr.out.mono ?_
            rintro e w3 ⟨r, ok, rfl, ht, hn, hf3⟩
            cases ok with
            | false => cases hn rfl
            | true =>
              obtain ⟨v', h1, rfl, -⟩ := ht rfl
              obtain rfl := Option.some.inj h1
              have HF3 := Lib.hid (HPut.out.2.trans (hf3.weak (R' := wr.heap.size) (S' := fun k => k = B) (by have := HPut.out.2.size; exact this) fun _ _ e => e))
              have q0 : (bt v == 0) = true := by rw [hv0]; rfl
              clear ht hn hf3 h1 hv0
              go_wp2_with fail
              refine bodyPost_ret (v := .tuple #[.string ⟨#[]⟩, .int .i64 5]) (by simp [results, Tryz.results107, go_sem]) rfl ?_
              exact txt_bad (by rw [HN.out, HT.out, HSt.out]) (HEr.out _ HF3.out) rfl
          · have HSt : Hid (nameF g ((bys V).drop (q + 1 + 2)) (acc ++ [v]) = T2) := by unfold Hid; rw [HTx2.out, if_neg (by simpa using hv0)]
            clear HTx2
            go_wp2_with fail
            refine HPr.out.mono ?_
            rintro e w3 ⟨r, ok, rfl, ht, hn, hf3⟩
            cases ok with
            | false => cases hn rfl
            | true =>
              obtain ⟨v', h1, rfl, hcu3⟩ := ht rfl
              obtain rfl := Option.some.inj h1
              have HF3 := Lib.hid (HPut.out.2.trans (hf3.weak (R' := wr.heap.size) (S' := fun k => k = B) (by have := HPut.out.2.size; exact this) fun _ _ e => e))
              have HC3 := Lib.hid hcu3
              have q0 : (bt v == 0) = false := by
                rw [beq_eq_false_iff_ne]; exact fun e => hv0 (bt_inj e)
              have hvn := (bt_nn v).1
              clear ht hn hf3 h1 hv0 hcu3
              go_wp2_with fail
              refine (HWB.out _ v HF3.out).mono ?_
              rintro e w3 ⟨rfl, hpk2, hfx⟩
              obtain ⟨hf2, hc2, hs2⟩ := HFin.out _ _ _ HF3.out HC3.out hfx
              have HF2 := Lib.hid hf2
              have HC2 := Lib.hid hc2
              have HPk2 := Lib.hid hpk2
              have HMe := Lib.hid (HMea.out _ _ hc2 (by omega) hlt)
              clear hf2 hc2 hpk2 hfx
              go_wp2_with fail
              exact ⟨⟨trivial, q + 1 + 2, g, acc ++ [v], by omega, by rw [List.length_append, List.length_singleton]; omega, HC2.out, HPk2.out, hlt3, HSt.out, HF2.out, hs2⟩, HMe.out⟩
      · have q35 : (((V[q]'hlt).toNat : Int) == 35) = false := bt_ne (V[q]'hlt) 35 hx35
        by_cases hx1 : V[q]'hlt < 33
        · have HSt : Hid (T2 = .error 5) := by
            unfold Hid
            rw [← HTe.out, nameF, if_neg (by simpa using hx35), if_pos (by simp [hx1])]
          have q33 : (((V[q]'hlt).toNat : Int) < 33) := by have := UInt8.lt_iff_toNat_lt.1 hx1; have h33 : (33 : UInt8).toNat = 33 := rfl; omega
          clear hx35 hx1
          go_wp2_with fail
          refine bodyPost_ret (v := .tuple #[.string ⟨#[]⟩, .int .i64 5]) (by simp [results, Tryz.results107, go_sem]) rfl ?_
          exact txt_bad (by rw [HN.out, HT.out, HSt.out]) (HEr.out _ HPut.out.2) rfl
        · have q33 : ¬ (((V[q]'hlt).toNat : Int) < 33) := fun e => hx1 (UInt8.lt_iff_toNat_lt.2 (by have h33 : (33 : UInt8).toNat = 33 := rfl; omega))
          by_cases hx2 : 126 < V[q]'hlt
          · have HSt : Hid (T2 = .error 5) := by
              unfold Hid
              rw [← HTe.out, nameF, if_neg (by simpa using hx35), if_pos (by simp [hx2])]
            have q126 : ((126 : Int) < ((V[q]'hlt).toNat : Int)) := by have := UInt8.lt_iff_toNat_lt.1 hx2; have h126 : (126 : UInt8).toNat = 126 := rfl; omega
            clear hx35 hx1 hx2
            go_wp2_with fail
            refine bodyPost_ret (v := .tuple #[.string ⟨#[]⟩, .int .i64 5]) (by simp [results, Tryz.results107, go_sem]) rfl ?_
            exact txt_bad (by rw [HN.out, HT.out, HSt.out]) (HEr.out _ HPut.out.2) rfl
          · have q126 : ¬ ((126 : Int) < ((V[q]'hlt).toNat : Int)) := fun e => hx2 (UInt8.lt_iff_toNat_lt.2 (by have h126 : (126 : UInt8).toNat = 126 := rfl; omega))
            have HSt : Hid (nameF g ((bys V).drop (q + 1)) (acc ++ [V[q]'hlt]) = T2) := by
              unfold Hid
              rw [← HTe.out, nameF, if_neg (by simpa using hx35), if_neg (by simp [hx1, hx2])]
            clear hx35 hx1 hx2
            go_wp2_with fail
            refine (HWB.out _ (V[q]'hlt) HPut.out.2).mono ?_
            rintro e w3 ⟨rfl, hpk2, hfx⟩
            obtain ⟨hf2, hc2, hs2⟩ := HFin.out _ _ _ HPut.out.2 HPut.out.1 hfx
            have HF2 := Lib.hid hf2
            have HC2 := Lib.hid hc2
            have HPk2 := Lib.hid hpk2
            have HMe := Lib.hid (HMea.out _ _ hc2 (by omega) hlt)
            clear hf2 hc2 hpk2 hfx
            go_wp2_with fail
            exact ⟨⟨trivial, q + 1, g, acc ++ [(V[q]'hlt)], by omega, by rw [List.length_append, List.length_singleton]; omega, HC2.out, HPk2.out, hfu2, HSt.out, HF2.out, hs2⟩, HMe.out⟩
    · have hqe : q = V.size := by omega
      have HSt : Hid (T2 = .ok acc) := by
        unfold Hid
        rw [← HTe.out, List.drop_eq_nil_of_le (by rw [bys_len]; omega)]; rfl
      have HLen := Lib.hid (pk_len HPk.out)
      have HEr : Hid (∀ W, FrX (B + 2) (B + 1) wr W → FrS w.heap.size (fun k => k = cb) w W) := fun W h => HF1.out.trans ((HFr.out.trans ((FrS.of_x (S := fun k => k = B + 1) h rfl).weak (by omega) fun k hk e => by omega)).weak (by have := HBq.out; omega) fun _ _ e => e.elim)
      have hwB : Hid (FrX (B + 2) (B + 1) wr wr) := FrX.of_below (Below.refl (B + 2) wr) (Nat.le_refl _)
      have HCl : Hid (∀ Z, FrX (B + 2) (B + 1) wr Z → Cu Z cb S (p + W.length)) := fun Z h => (HC1.out.fr (HFr.out.trans ((FrS.of_x (S := fun k => k = B + 1) h rfl).weak (by omega) fun k hk e => by omega)) (by have := HBq.out; omega) id)
      subst hqe
      clear hlt
      by_cases h0 : acc.length = 0
      · have HSt2 : Hid (T = .error 5) := by unfold Hid; rw [HN.out, HT.out, HSt.out]; dsimp only; rw [if_pos h0]
        have he : ((acc.length : Int) == 0) = true := by rw [h0]; rfl
        clear h0
        go_wp2_with fail
        refine HLen.out.mono ?_
        rintro e w3 ⟨rfl, rfl⟩
        go_wp2_with fail
        refine bodyPost_ret (v := .tuple #[.string ⟨#[]⟩, .int .i64 5]) (by simp [results, Tryz.results107, go_sem]) rfl ?_
        exact txt_bad HSt2.out (HEr.out _ hwB.out) rfl
      · have he : ((acc.length : Int) == 0) = false := by rw [beq_eq_false_iff_ne]; omega
        have HStr := Lib.hid (pk_string HPk.out)
        have HLim := Lib.hid fun W => limited_any acc 31 W
        by_cases hL : 31 < acc.length
        · have HSt2 : Hid (T = .error 2) := by unfold Hid; rw [HN.out, HT.out, HSt.out]; dsimp only; rw [if_neg h0, if_pos hL]
          rw [if_pos hL, if_pos hL] at HLim
          generalize hsv : (⟨acc.toArray⟩ : ByteArray) = sv at *
          have HSv := Lib.hid hsv
          clear hsv h0 hL
          go_wp2_with fail
          refine HLen.out.mono ?_
          rintro e w3 ⟨rfl, rfl⟩
          go_wp2_with fail
          refine HStr.out.mono ?_
          rintro e w4 ⟨rfl, hfx⟩
          have HFx := Lib.hid hfx
          clear hfx
          go_wp2_with fail
          refine (HLim.out _).mono ?_
          rintro e w5 ⟨rfl, rfl⟩
          go_wp2_with fail
          refine bodyPost_ret (v := .tuple #[.string ⟨#[]⟩, .int .i64 2]) (by simp [results, Tryz.results107, go_sem]) rfl ?_
          exact txt_bad HSt2.out (HEr.out _ HFx.out) rfl
        · have HSt2 : Hid (T = .ok (acc, W.length)) := by unfold Hid; rw [HN.out, HT.out, HSt.out]; dsimp only; rw [if_neg h0, if_neg hL]
          rw [if_neg hL, if_neg hL] at HLim
          generalize hsv : (⟨acc.toArray⟩ : ByteArray) = sv at *
          have HSv := Lib.hid hsv
          clear hsv h0 hL
          go_wp2_with fail
          refine HLen.out.mono ?_
          rintro e w3 ⟨rfl, rfl⟩
          go_wp2_with fail
          refine HStr.out.mono ?_
          rintro e w4 ⟨rfl, hfx⟩
          have HFx := Lib.hid hfx
          clear hfx
          go_wp2_with fail
          refine (HLim.out _).mono ?_
          rintro e w5 ⟨rfl, rfl⟩
          go_wp2_with fail
          refine bodyPost_ret (v := .tuple #[.string sv, .int .i64 0]) (by simp [results, Tryz.results107, go_sem]) rfl ?_
          rw [← HSv.out]
          exact txt_ok HSt2.out (HEr.out _ HFx.out) rfl (HCl.out _ HFx.out)
end Go.Proofs.YthbdhijkdldmoaaGreatDoor
namespace Go.Proofs.YthbdhijkdldmoaaGreatDoor
open Go.RowKit Tk
def allC : Bool → Tk.Src → Bool
  | _, [] => true
  | b, x :: r => wordC b x && allC false r
theorem allC_all (r : Tk.Src) : allC false r = r.all (wordC false) := by
  induction r with
  | nil => rfl
  | cons x r ih => rw [allC, ih]; rfl
theorem word_of (l : Tk.Src) : word l = if l.length = 0 then .error 5 else if allC true l then (if 31 < l.length then .error 2 else .ok l) else .error 5 := by
  cases l with
  | nil => rfl
  | cons x r => rw [if_neg (by simp), allC, allC_all]; rfl
def wordR (l : Tk.Src) : Value := match word l with
  | .ok v => .tuple #[.string ⟨v.toArray⟩, .int .i64 0]
  | .error e => .tuple #[.string ⟨#[]⟩, .int .i64 e]
set_option maxHeartbeats 4000000 in
theorem word_any (l : Tk.Src) (w : World) (hl : l.length ≤ 100000) :
    Calls Tryz.prog 83 #[.string ⟨l.toArray⟩] w fun e w' => e = .returned (wordR l) ∧ w = w' := by
  have HLim := Lib.hid (limited_any l 31 w)
  obtain ⟨S, hS⟩ : ∃ S : ByteArray, S = ⟨l.toArray⟩ := ⟨_, rfl⟩
  have hz : S.size = l.length := by rw [hS, int_size]
  have HB : Hid (bys S = l) := by unfold Hid; rw [hS, int_bys]
  have HEm : Hid (S.toList.isEmpty = decide (l.length = 0)) := by
    unfold Hid
    rw [Lib.toList_data]
    have := HB.out
    unfold bys at this
    rw [this]
    cases l <;> rfl
  have HS := Lib.hid hS
  rw [← hS] at HLim ⊢
  have hs : S.size ≤ 100000 := by omega
  have hs0 : (S.size : Int) ≤ 100000 := by omega
  clear hS
  have HW : Hid (wordR l = if l.length = 0 then .tuple #[.string ⟨#[]⟩, .int .i64 5] else if allC true l then (if 31 < l.length then .tuple #[.string ⟨#[]⟩, .int .i64 2] else .tuple #[.string S, .int .i64 0]) else .tuple #[.string ⟨#[]⟩, .int .i64 5]) := by
    unfold Hid wordR
    rw [word_of, HS.out]
    by_cases h1 : l.length = 0
    · rw [if_pos h1, if_pos h1]
    · rw [if_neg h1, if_neg h1]
      by_cases h2 : allC true l = true
      · rw [if_pos h2, if_pos h2]
        by_cases h3 : 31 < l.length
        · rw [if_pos h3, if_pos h3]
        · rw [if_neg h3, if_neg h3]
      · rw [if_neg h2, if_neg h2]
  have HZ := Lib.hid hz
  clear hz
  go_enter Tryz.func83, Tryz.ntmps83
  go_wp2_with fail
  go_loop [8] (fun v8 => ∃ k : Nat, v8 = .int .i64 k ∧ k ≤ S.size ∧ allC (k == 0) ((bys S).drop k) = allC true l) (fun v8 => S.size - (intOf v8).toNat)
  case atStart => exact ⟨0, rfl, Nat.zero_le _, by rw [HB.out, List.drop_zero]; rfl⟩
  case round =>
    obtain ⟨k, rfl, hk, hac⟩ := hrel
    have HAc := Lib.hid hac
    clear hac
    by_cases hlt : k < S.size
    · have hi1 : (k : Int) < (S.size : Int) := by omega
      have HDr := Lib.hid (drop_byte S k hlt)
      have HA : Hid (allC true l = (wordC (k == 0) (S[k]'hlt) && allC false ((bys S).drop (k + 1)))) := by
        unfold Hid
        rw [← HAc.out, HDr.out, allC]
      have HNx : Hid (wordC (k == 0) (S[k]'hlt) = true → allC ((k + 1) == 0) ((bys S).drop (k + 1)) = allC true l) := fun h => by
        rw [HA.out, h]; simp
      have HBd : Hid (wordC (k == 0) (S[k]'hlt) = false → wordR l = .tuple #[.string ⟨#[]⟩, .int .i64 5]) := fun h => by
        rw [HW.out, if_neg (by have := HZ.out; omega), if_neg (by rw [HA.out, h]; simp)]
      clear HAc HA HDr HLim HW
      have HL := Lib.hid (letter_any (S[k]'hlt) w)
      have HD := Lib.hid (digit_any (S[k]'hlt) w)
      have hxn := (bt_nn (S[k]'hlt)).1
      cases hlet : letter (S[k]'hlt)
      · rw [hlet] at HL
        by_cases h0 : k = 0
        · have hk0 : ((k : Int) == 0) = true := by rw [h0]; rfl
          have hb0 : (k == 0) = true := by rw [h0]; rfl
          rw [hb0] at HNx HBd
          by_cases h42 : S[k]'hlt = 42
          · have q42 : (((S[k]'hlt).toNat : Int) == 42) = true := by rw [h42]; rfl
            have n42 : (((S[k]'hlt).toNat : Int) != 42) = false := by rw [h42]; rfl
            have HSt := Lib.hid (HNx.out (by unfold wordC; rw [h42]; simp))
            clear HNx HBd hlet h0 hb0 h42
            go_wp2_with fail
            refine HL.out.mono ?_
            rintro e w2 ⟨rfl, rfl⟩
            go_wp2_with fail
            go_round
            case rel => exact ⟨k + 1, by go_num, by omega, HSt.out⟩
            case measure => simp [intOf]; omega
          · have q42 : (((S[k]'hlt).toNat : Int) == 42) = false := bt_ne (S[k]'hlt) 42 h42
            have n42 : (((S[k]'hlt).toNat : Int) != 42) = true := by rw [bne, q42]; rfl
            by_cases h95 : S[k]'hlt = 95
            · have q95 : (((S[k]'hlt).toNat : Int) == 95) = true := by rw [h95]; rfl
              have n95 : (((S[k]'hlt).toNat : Int) != 95) = false := by rw [h95]; rfl
              have HSt := Lib.hid (HNx.out (by unfold wordC; rw [h95]; simp))
              clear HNx HBd hlet h0 hb0 h42 h95
              go_wp2_with fail
              refine HL.out.mono ?_
              rintro e w2 ⟨rfl, rfl⟩
              go_wp2_with fail
              go_round
              case rel => exact ⟨k + 1, by go_num, by omega, HSt.out⟩
              case measure => simp [intOf]; omega
            · have q95 : (((S[k]'hlt).toNat : Int) == 95) = false := bt_ne (S[k]'hlt) 95 h95
              have n95 : (((S[k]'hlt).toNat : Int) != 95) = true := by rw [bne, q95]; rfl
              by_cases h46 : S[k]'hlt = 46
              · have q46 : (((S[k]'hlt).toNat : Int) == 46) = true := by rw [h46]; rfl
                have n46 : (((S[k]'hlt).toNat : Int) != 46) = false := by rw [h46]; rfl
                have HSt := Lib.hid (HNx.out (by unfold wordC; rw [h46]; simp))
                clear HNx HBd hlet h0 hb0 h42 h95 h46
                go_wp2_with fail
                refine HL.out.mono ?_
                rintro e w2 ⟨rfl, rfl⟩
                go_wp2_with fail
                go_round
                case rel => exact ⟨k + 1, by go_num, by omega, HSt.out⟩
                case measure => simp [intOf]; omega
              · have q46 : (((S[k]'hlt).toNat : Int) == 46) = false := bt_ne (S[k]'hlt) 46 h46
                have n46 : (((S[k]'hlt).toNat : Int) != 46) = true := by rw [bne, q46]; rfl
                have HSt := Lib.hid (HBd.out (by unfold wordC; simp [hlet, h42, h95, h46]))
                clear HNx HBd hlet h0 hb0 h42 h95 h46
                go_wp2_with fail
                refine HL.out.mono ?_
                rintro e w2 ⟨rfl, rfl⟩
                go_wp2_with fail
                refine bodyPost_ret (v := .tuple #[.string ⟨#[]⟩, .int .i64 5]) (by simp [results, Tryz.results83, go_sem]) rfl ?_
                exact ⟨by rw [HSt.out], rfl⟩
        · have hk0 : ((k : Int) == 0) = false := by rw [beq_eq_false_iff_ne]; omega
          have hb0 : (k == 0) = false := by rw [beq_eq_false_iff_ne]; exact h0
          rw [hb0] at HNx HBd
          cases hdig : digit (S[k]'hlt)
          · rw [hdig] at HD
            by_cases h42 : S[k]'hlt = 42
            · have q42 : (((S[k]'hlt).toNat : Int) == 42) = true := by rw [h42]; rfl
              have n42 : (((S[k]'hlt).toNat : Int) != 42) = false := by rw [h42]; rfl
              have HSt := Lib.hid (HNx.out (by unfold wordC; rw [h42]; simp))
              clear HNx HBd hlet h0 hb0 hdig h42
              go_wp2_with fail
              refine HL.out.mono ?_
              rintro e w2 ⟨rfl, rfl⟩
              go_wp2_with fail
              refine HD.out.mono ?_
              rintro e w2 ⟨rfl, rfl⟩
              go_wp2_with fail
              go_round
              case rel => exact ⟨k + 1, by go_num, by omega, HSt.out⟩
              case measure => simp [intOf]; omega
            · have q42 : (((S[k]'hlt).toNat : Int) == 42) = false := bt_ne (S[k]'hlt) 42 h42
              have n42 : (((S[k]'hlt).toNat : Int) != 42) = true := by rw [bne, q42]; rfl
              by_cases h95 : S[k]'hlt = 95
              · have q95 : (((S[k]'hlt).toNat : Int) == 95) = true := by rw [h95]; rfl
                have n95 : (((S[k]'hlt).toNat : Int) != 95) = false := by rw [h95]; rfl
                have HSt := Lib.hid (HNx.out (by unfold wordC; rw [h95]; simp))
                clear HNx HBd hlet h0 hb0 hdig h42 h95
                go_wp2_with fail
                refine HL.out.mono ?_
                rintro e w2 ⟨rfl, rfl⟩
                go_wp2_with fail
                refine HD.out.mono ?_
                rintro e w2 ⟨rfl, rfl⟩
                go_wp2_with fail
                go_round
                case rel => exact ⟨k + 1, by go_num, by omega, HSt.out⟩
                case measure => simp [intOf]; omega
              · have q95 : (((S[k]'hlt).toNat : Int) == 95) = false := bt_ne (S[k]'hlt) 95 h95
                have n95 : (((S[k]'hlt).toNat : Int) != 95) = true := by rw [bne, q95]; rfl
                by_cases h46 : S[k]'hlt = 46
                · have q46 : (((S[k]'hlt).toNat : Int) == 46) = true := by rw [h46]; rfl
                  have n46 : (((S[k]'hlt).toNat : Int) != 46) = false := by rw [h46]; rfl
                  have HSt := Lib.hid (HNx.out (by unfold wordC; rw [h46]; simp))
                  clear HNx HBd hlet h0 hb0 hdig h42 h95 h46
                  go_wp2_with fail
                  refine HL.out.mono ?_
                  rintro e w2 ⟨rfl, rfl⟩
                  go_wp2_with fail
                  refine HD.out.mono ?_
                  rintro e w2 ⟨rfl, rfl⟩
                  go_wp2_with fail
                  go_round
                  case rel => exact ⟨k + 1, by go_num, by omega, HSt.out⟩
                  case measure => simp [intOf]; omega
                · have q46 : (((S[k]'hlt).toNat : Int) == 46) = false := bt_ne (S[k]'hlt) 46 h46
                  have n46 : (((S[k]'hlt).toNat : Int) != 46) = true := by rw [bne, q46]; rfl
                  have HSt := Lib.hid (HBd.out (by unfold wordC; simp [hlet, hdig, h42, h95, h46]))
                  clear HNx HBd hlet h0 hb0 hdig h42 h95 h46
                  go_wp2_with fail
                  refine HL.out.mono ?_
                  rintro e w2 ⟨rfl, rfl⟩
                  go_wp2_with fail
                  refine HD.out.mono ?_
                  rintro e w2 ⟨rfl, rfl⟩
                  go_wp2_with fail
                  refine bodyPost_ret (v := .tuple #[.string ⟨#[]⟩, .int .i64 5]) (by simp [results, Tryz.results83, go_sem]) rfl ?_
                  exact ⟨by rw [HSt.out], rfl⟩
          · rw [hdig] at HD
            have HSt := Lib.hid (HNx.out (by unfold wordC; simp [hdig]))
            clear HNx HBd hlet h0 hb0 hdig
            go_wp2_with fail
            refine HL.out.mono ?_
            rintro e w2 ⟨rfl, rfl⟩
            go_wp2_with fail
            refine HD.out.mono ?_
            rintro e w2 ⟨rfl, rfl⟩
            go_wp2_with fail
            go_round
            case rel => exact ⟨k + 1, by go_num, by omega, HSt.out⟩
            case measure => simp [intOf]; omega
      · rw [hlet] at HL
        have HSt := Lib.hid (HNx.out (by unfold wordC; simp [hlet]))
        clear HNx HBd hlet
        go_wp2_with fail
        refine HL.out.mono ?_
        rintro e w2 ⟨rfl, rfl⟩
        go_wp2_with fail
        go_round
        case rel => exact ⟨k + 1, by go_num, by omega, HSt.out⟩
        case measure => simp [intOf]; omega
    · have hk2 : k = S.size := by omega
      have HG : Hid (allC true l = true) := by
        unfold Hid
        rw [← HAc.out, List.drop_eq_nil_of_le (by rw [bys_len]; omega)]; rfl
      have hi2 : ¬ (k : Int) < (S.size : Int) := by omega
      clear HAc hlt
      by_cases h0 : l.length = 0
      · have HSt : Hid (wordR l = .tuple #[.string ⟨#[]⟩, .int .i64 5]) := by unfold Hid; rw [HW.out, if_pos h0]
        have he := HEm.out
        rw [decide_eq_true h0] at he
        clear HEm HW h0 HG hk2
        go_wp2_with fail
        refine bodyPost_ret (v := .tuple #[.string ⟨#[]⟩, .int .i64 5]) (by simp [results, Tryz.results83, go_sem]) rfl ?_
        exact ⟨by rw [HSt.out], rfl⟩
      · have he := HEm.out
        rw [decide_eq_false h0] at he
        by_cases h31 : 31 < l.length
        · have HSt : Hid (wordR l = .tuple #[.string ⟨#[]⟩, .int .i64 2]) := by unfold Hid; rw [HW.out, if_neg h0, if_pos HG.out, if_pos h31]
          rw [if_pos h31, if_pos h31] at HLim
          clear HEm HW h0 HG h31 hk2
          go_wp2_with fail
          refine HLim.out.mono ?_
          rintro e w2 ⟨rfl, rfl⟩
          go_wp2_with fail
          refine bodyPost_ret (v := .tuple #[.string ⟨#[]⟩, .int .i64 2]) (by simp [results, Tryz.results83, go_sem]) rfl ?_
          exact ⟨by rw [HSt.out], rfl⟩
        · have HSt : Hid (wordR l = .tuple #[.string S, .int .i64 0]) := by unfold Hid; rw [HW.out, if_neg h0, if_pos HG.out, if_neg h31]
          rw [if_neg h31, if_neg h31, ← HS.out] at HLim
          clear HEm HW h0 HG h31 hk2
          go_wp2_with fail
          refine HLim.out.mono ?_
          rintro e w2 ⟨rfl, rfl⟩
          go_wp2_with fail
          refine bodyPost_ret (v := .tuple #[.string S, .int .i64 0]) (by simp [results, Tryz.results83, go_sem]) rfl ?_
          exact ⟨by rw [HSt.out], rfl⟩
end Go.Proofs.YthbdhijkdldmoaaGreatDoor
namespace Go.Proofs.YthbdhijkdldmoaaGreatDoor
open Go.RowKit Tk
def refR (w : Tk.Src) : Value := match reference w with
  | .ok v => .tuple #[.int .i64 v, .int .i64 0]
  | .error e => .tuple #[.int .i64 0, .int .i64 e]
theorem atoi_nat {l : Tk.Src} (h0 : l.length ≠ 0) (h : l.all digit = true) : Lib.atoi l = some (natV l : Int) := by
  cases l with
  | nil => exact absurd rfl h0
  | cons x r =>
    have hx := digit_plain (List.all_eq_true.1 h x (by simp))
    have hg : digs (x :: r) = x :: r := by unfold digs signed; simp [hx.2.2.1, hx.2.2.2]
    have hv : intV (x :: r) = (natV (x :: r) : Int) := by unfold intV; simp [hx.2.2.1, hx.2.2.2]
    rw [← hv]; exact atoi_of (by rw [hg]; simp) (by rw [hg]; exact h)
set_option maxHeartbeats 4000000 in
theorem reference_any (l : Tk.Src) (w : World) (hl : l.length ≤ 100000) :
    Calls Tryz.prog 108 #[.string ⟨l.toArray⟩] w fun e w' => e = .returned (refR l) ∧ Below w.heap.size w w' := by
  obtain ⟨S, hS⟩ : ∃ S : ByteArray, S = ⟨l.toArray⟩ := ⟨_, rfl⟩
  have hz : S.size = l.length := by rw [hS, int_size]
  have HB : Hid (bys S = l) := by unfold Hid; rw [hS, int_bys]
  rw [← hS]
  clear hS
  have HEm : Hid (S.toList.isEmpty = decide (l.length = 0)) := by
    unfold Hid
    rw [Lib.toList_data]
    have := HB.out
    unfold bys at this
    rw [this]
    cases l <;> rfl
  by_cases hn0 : l.length = 0
  · have HI : Hid (refR l = .tuple #[.int .i64 0, .int .i64 5]) := by unfold Hid refR reference; rw [if_pos (.inl hn0)]
    have he := HEm.out
    rw [decide_eq_true hn0] at he
    clear hz hn0
    go_enter Tryz.func108, Tryz.ntmps108
    go_wp2_with fail
    refine bodyPost_ret (v := .tuple #[.int .i64 0, .int .i64 5]) (by simp [results, Tryz.results108, go_sem]) rfl ?_
    exact ⟨by rw [HI.out], Below.refl _ _⟩
  · have he := HEm.out
    rw [decide_eq_false hn0] at he
    by_cases hn3 : 3 < l.length
    · have HI : Hid (refR l = .tuple #[.int .i64 0, .int .i64 5]) := by unfold Hid refR reference; rw [if_pos (.inr (.inl hn3))]
      have hs3 : (3 : Int) < (S.size : Int) := by omega
      clear hz hn0 hn3
      go_enter Tryz.func108, Tryz.ntmps108
      go_wp2_with fail
      refine bodyPost_ret (v := .tuple #[.int .i64 0, .int .i64 5]) (by simp [results, Tryz.results108, go_sem]) rfl ?_
      exact ⟨by rw [HI.out], Below.refl _ _⟩
    · have hs3 : ¬ (3 : Int) < (S.size : Int) := by omega
      have h0 : 0 < S.size := by omega
      have hi : (0 : Int) < (S.size : Int) := by omega
      have HX : Hid (l.head? = some (S[0]'h0)) := by
        unfold Hid
        have := drop_byte S 0 h0
        rw [List.drop_zero, HB.out] at this
        rw [this]; rfl
      by_cases hx : S[0]'h0 = 48
      · have q1 : (((S[0]'h0).toNat : Int) == 48) = true := by rw [hx]; rfl
        by_cases hn1 : 1 < l.length
        · have HI : Hid (refR l = .tuple #[.int .i64 0, .int .i64 5]) := by unfold Hid refR reference; rw [if_pos (.inr (.inr (.inl ⟨by rw [HX.out, hx], hn1⟩)))]
          have hs1 : (1 : Int) < (S.size : Int) := by omega
          clear hz hn0 hn3 hn1 hx
          go_enter Tryz.func108, Tryz.ntmps108
          go_wp2_with fail
          refine bodyPost_ret (v := .tuple #[.int .i64 0, .int .i64 5]) (by simp [results, Tryz.results108, go_sem]) rfl ?_
          exact ⟨by rw [HI.out], Below.refl _ _⟩
        · have hs1 : ¬ (1 : Int) < (S.size : Int) := by omega
          have hnz : ¬ (l.head? = some 48 ∧ 1 < l.length) := fun e => hn1 e.2
          have HH := Lib.hid fun W => hasR S W
          rw [HB.out] at HH
          cases hal : l.all digit
          · have HI : Hid (refR l = .tuple #[.int .i64 0, .int .i64 5]) := by unfold Hid refR reference; rw [if_pos (.inr (.inr (.inr hal)))]
            rw [hal] at HH
            clear hz hn0 hn3 hn1 hx hal hnz
            go_enter Tryz.func108, Tryz.ntmps108
            go_wp2_with fail
            refine (HH.out _).mono ?_
            rintro e w2 ⟨rfl, hb2⟩
            have HB2 := Lib.hid hb2
            clear hb2
            go_wp2_with fail
            refine bodyPost_ret (v := .tuple #[.int .i64 0, .int .i64 5]) (by simp [results, Tryz.results108, go_sem]) rfl ?_
            exact ⟨by rw [HI.out], HB2.out⟩
          · have HA : Hid (∀ W, Calls Tryz.prog 59 #[.string S] W fun e w' => e = .returned (.tuple #[.int .i64 (natV l), .nilIface]) ∧ Below W.heap.size W w') := fun W =>
              (strconv_Atoi S (natV l) (by omega) (by show Lib.atoi (bys S) = _; rw [HB.out]; exact atoi_nat hn0 hal) W).mono fun e w' ⟨a, t, b⟩ => ⟨a, by rw [b]; exact Go.Joins.below_bytesWorld _ W 5 t (Nat.le_refl _)⟩
            have HI : Hid (refR l = if (natV l : Int) < 1 ∨ 255 < (natV l : Int) then .tuple #[.int .i64 0, .int .i64 3] else .tuple #[.int .i64 (natV l), .int .i64 0]) := by
              unfold Hid refR reference
              rw [if_neg (fun e => by rcases e with e | e | e | e; exact hn0 e; omega; exact hnz e; rw [hal] at e; cases e)]
              split
              · rename_i v hv
                split at hv
                · cases hv
                · rename_i h1; cases hv; rw [if_neg h1]
              · rename_i v hv
                split at hv
                · rename_i h1; cases hv; rw [if_pos h1]
                · cases hv
            rw [hal] at HH
            generalize (natV l : Int) = v at *
            clear hz hn0 hn3 hn1 hx hal hnz
            by_cases hv1 : v < 1
            · go_enter Tryz.func108, Tryz.ntmps108
              go_wp2_with fail
              refine (HH.out _).mono ?_
              rintro e w2 ⟨rfl, hb2⟩
              have HB2 := Lib.hid hb2
              clear hb2
              go_wp2_with fail
              refine (HA.out _).mono ?_
              rintro e w3 ⟨rfl, hb3⟩
              have HB3 := Lib.hid (HB2.out.trans (hb3.mono HB2.out.size))
              clear hb3
              go_wp2_with fail
              refine bodyPost_ret (v := .tuple #[.int .i64 0, .int .i64 3]) (by simp [results, Tryz.results108, go_sem]) rfl ?_
              exact ⟨by rw [HI.out, if_pos (.inl hv1)], HB3.out⟩
            · by_cases hv2 : 255 < v
              · go_enter Tryz.func108, Tryz.ntmps108
                go_wp2_with fail
                refine (HH.out _).mono ?_
                rintro e w2 ⟨rfl, hb2⟩
                have HB2 := Lib.hid hb2
                clear hb2
                go_wp2_with fail
                refine (HA.out _).mono ?_
                rintro e w3 ⟨rfl, hb3⟩
                have HB3 := Lib.hid (HB2.out.trans (hb3.mono HB2.out.size))
                clear hb3
                go_wp2_with fail
                refine bodyPost_ret (v := .tuple #[.int .i64 0, .int .i64 3]) (by simp [results, Tryz.results108, go_sem]) rfl ?_
                exact ⟨by rw [HI.out, if_pos (.inr hv2)], HB3.out⟩
              · go_enter Tryz.func108, Tryz.ntmps108
                go_wp2_with fail
                refine (HH.out _).mono ?_
                rintro e w2 ⟨rfl, hb2⟩
                have HB2 := Lib.hid hb2
                clear hb2
                go_wp2_with fail
                refine (HA.out _).mono ?_
                rintro e w3 ⟨rfl, hb3⟩
                have HB3 := Lib.hid (HB2.out.trans (hb3.mono HB2.out.size))
                clear hb3
                go_wp2_with fail
                refine bodyPost_ret (v := .tuple #[.int .i64 v, .int .i64 0]) (by simp [results, Tryz.results108, go_sem]) rfl ?_
                exact ⟨by rw [HI.out, if_neg (by omega)], HB3.out⟩
      · have q1 : (((S[0]'h0).toNat : Int) == 48) = false := by have := bt_ne (S[0]'h0) 48 hx; exact this
        have hnz : ¬ (l.head? = some 48 ∧ 1 < l.length) := fun e => hx (by rw [HX.out] at e; exact Option.some.inj e.1)
        have HH := Lib.hid fun W => hasR S W
        rw [HB.out] at HH
        cases hal : l.all digit
        · have HI : Hid (refR l = .tuple #[.int .i64 0, .int .i64 5]) := by unfold Hid refR reference; rw [if_pos (.inr (.inr (.inr hal)))]
          rw [hal] at HH
          clear hz hn0 hn3 hx hal hnz
          go_enter Tryz.func108, Tryz.ntmps108
          go_wp2_with fail
          refine (HH.out _).mono ?_
          rintro e w2 ⟨rfl, hb2⟩
          have HB2 := Lib.hid hb2
          clear hb2
          go_wp2_with fail
          refine bodyPost_ret (v := .tuple #[.int .i64 0, .int .i64 5]) (by simp [results, Tryz.results108, go_sem]) rfl ?_
          exact ⟨by rw [HI.out], HB2.out⟩
        · have HA : Hid (∀ W, Calls Tryz.prog 59 #[.string S] W fun e w' => e = .returned (.tuple #[.int .i64 (natV l), .nilIface]) ∧ Below W.heap.size W w') := fun W =>
            (strconv_Atoi S (natV l) (by omega) (by show Lib.atoi (bys S) = _; rw [HB.out]; exact atoi_nat hn0 hal) W).mono fun e w' ⟨a, t, b⟩ => ⟨a, by rw [b]; exact Go.Joins.below_bytesWorld _ W 5 t (Nat.le_refl _)⟩
          have HI : Hid (refR l = if (natV l : Int) < 1 ∨ 255 < (natV l : Int) then .tuple #[.int .i64 0, .int .i64 3] else .tuple #[.int .i64 (natV l), .int .i64 0]) := by
            unfold Hid refR reference
            rw [if_neg (fun e => by rcases e with e | e | e | e; exact hn0 e; omega; exact hnz e; rw [hal] at e; cases e)]
            split
            · rename_i v hv
              split at hv
              · cases hv
              · rename_i h1; cases hv; rw [if_neg h1]
            · rename_i v hv
              split at hv
              · rename_i h1; cases hv; rw [if_pos h1]
              · cases hv
          rw [hal] at HH
          generalize (natV l : Int) = v at *
          clear hz hn0 hn3 hx hal hnz
          by_cases hv1 : v < 1
          · go_enter Tryz.func108, Tryz.ntmps108
            go_wp2_with fail
            refine (HH.out _).mono ?_
            rintro e w2 ⟨rfl, hb2⟩
            have HB2 := Lib.hid hb2
            clear hb2
            go_wp2_with fail
            refine (HA.out _).mono ?_
            rintro e w3 ⟨rfl, hb3⟩
            have HB3 := Lib.hid (HB2.out.trans (hb3.mono HB2.out.size))
            clear hb3
            go_wp2_with fail
            refine bodyPost_ret (v := .tuple #[.int .i64 0, .int .i64 3]) (by simp [results, Tryz.results108, go_sem]) rfl ?_
            exact ⟨by rw [HI.out, if_pos (.inl hv1)], HB3.out⟩
          · by_cases hv2 : 255 < v
            · go_enter Tryz.func108, Tryz.ntmps108
              go_wp2_with fail
              refine (HH.out _).mono ?_
              rintro e w2 ⟨rfl, hb2⟩
              have HB2 := Lib.hid hb2
              clear hb2
              go_wp2_with fail
              refine (HA.out _).mono ?_
              rintro e w3 ⟨rfl, hb3⟩
              have HB3 := Lib.hid (HB2.out.trans (hb3.mono HB2.out.size))
              clear hb3
              go_wp2_with fail
              refine bodyPost_ret (v := .tuple #[.int .i64 0, .int .i64 3]) (by simp [results, Tryz.results108, go_sem]) rfl ?_
              exact ⟨by rw [HI.out, if_pos (.inr hv2)], HB3.out⟩
            · go_enter Tryz.func108, Tryz.ntmps108
              go_wp2_with fail
              refine (HH.out _).mono ?_
              rintro e w2 ⟨rfl, hb2⟩
              have HB2 := Lib.hid hb2
              clear hb2
              go_wp2_with fail
              refine (HA.out _).mono ?_
              rintro e w3 ⟨rfl, hb3⟩
              have HB3 := Lib.hid (HB2.out.trans (hb3.mono HB2.out.size))
              clear hb3
              go_wp2_with fail
              refine bodyPost_ret (v := .tuple #[.int .i64 v, .int .i64 0]) (by simp [results, Tryz.results108, go_sem]) rfl ?_
              exact ⟨by rw [HI.out, if_neg (by omega)], HB3.out⟩
end Go.Proofs.YthbdhijkdldmoaaGreatDoor
