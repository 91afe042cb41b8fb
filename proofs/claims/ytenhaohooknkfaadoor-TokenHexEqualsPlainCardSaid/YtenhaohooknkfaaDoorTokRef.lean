/- The walk of reference (printed by gen_ref.py). -/
import Derived.Test.YtenhaohooknkfaaDoorTokInt
namespace Go.Proofs.YtenhaohooknkfaaDoor
open Go.RowKit Tk
def refR (w : Src) : Value := match reference w with
  | .ok v => .tuple #[.int .i64 v, .int .i64 0]
  | .error e => .tuple #[.int .i64 0, .int .i64 e]
theorem atoi_nat {l : Src} (h0 : l.length ≠ 0) (h : l.all digit = true) : Lib.atoi l = some (natV l : Int) := by
  cases l with
  | nil => exact absurd rfl h0
  | cons x r =>
    have hx := digit_plain (List.all_eq_true.1 h x (by simp))
    have hg : digs (x :: r) = x :: r := by unfold digs signed; simp [hx.2.2.1, hx.2.2.2]
    have hv : intV (x :: r) = (natV (x :: r) : Int) := by unfold intV; simp [hx.2.2.1, hx.2.2.2]
    rw [← hv]; exact atoi_of (by rw [hg]; simp) (by rw [hg]; exact h)
set_option maxHeartbeats 4000000 in
theorem reference_any (l : Src) (w : World) (hl : l.length ≤ 100000) :
    Calls Tryd.prog 48 #[.string ⟨l.toArray⟩] w fun e w' => e = .returned (refR l) ∧ Below w.heap.size w w' := by
  obtain ⟨S, hS⟩ : ∃ S : ByteArray, S = ⟨l.toArray⟩ := ⟨_, rfl⟩
  have hz : S.size = l.length := by rw [hS, int_size]
  have HB : Hid (bys S = l) := by unfold Hid; rw [hS, int_bys]
  rw [← hS]
  clear hS
  have HEm : Hid (S.toList.isEmpty = decide (l.length = 0)) := by
    unfold Hid
    rw [Lib.toList_data]
    have := HB.out
    unfold bys at this
    rw [this]
    cases l <;> rfl
  by_cases hn0 : l.length = 0
  · have HI : Hid (refR l = .tuple #[.int .i64 0, .int .i64 5]) := by unfold Hid refR reference; rw [if_pos (.inl hn0)]
    have he := HEm.out
    rw [decide_eq_true hn0] at he
    clear hz hn0
    go_enter Tryd.func48, Tryd.ntmps48
    go_wp2_with fail
    refine bodyPost_ret (v := .tuple #[.int .i64 0, .int .i64 5]) (by simp [results, Tryd.results48, go_sem]) rfl ?_
    exact ⟨by rw [HI.out], Below.refl _ _⟩
  · have he := HEm.out
    rw [decide_eq_false hn0] at he
    by_cases hn3 : 3 < l.length
    · have HI : Hid (refR l = .tuple #[.int .i64 0, .int .i64 5]) := by unfold Hid refR reference; rw [if_pos (.inr (.inl hn3))]
      have hs3 : (3 : Int) < (S.size : Int) := by omega
      clear hz hn0 hn3
      go_enter Tryd.func48, Tryd.ntmps48
      go_wp2_with fail
      refine bodyPost_ret (v := .tuple #[.int .i64 0, .int .i64 5]) (by simp [results, Tryd.results48, go_sem]) rfl ?_
      exact ⟨by rw [HI.out], Below.refl _ _⟩
    · have hs3 : ¬ (3 : Int) < (S.size : Int) := by omega
      have h0 : 0 < S.size := by omega
      have hi : (0 : Int) < (S.size : Int) := by omega
      have HX : Hid (l.head? = some (S[0]'h0)) := by
        unfold Hid
        have := drop_byte S 0 h0
        rw [List.drop_zero, HB.out] at this
        rw [this]; rfl
      by_cases hx : S[0]'h0 = 48
      · have q1 : (((S[0]'h0).toNat : Int) == 48) = true := by rw [hx]; rfl
        by_cases hn1 : 1 < l.length
        · have HI : Hid (refR l = .tuple #[.int .i64 0, .int .i64 5]) := by unfold Hid refR reference; rw [if_pos (.inr (.inr (.inl ⟨by rw [HX.out, hx], hn1⟩)))]
          have hs1 : (1 : Int) < (S.size : Int) := by omega
          clear hz hn0 hn3 hn1 hx
          go_enter Tryd.func48, Tryd.ntmps48
          go_wp2_with fail
          refine bodyPost_ret (v := .tuple #[.int .i64 0, .int .i64 5]) (by simp [results, Tryd.results48, go_sem]) rfl ?_
          exact ⟨by rw [HI.out], Below.refl _ _⟩
        · have hs1 : ¬ (1 : Int) < (S.size : Int) := by omega
          have hnz : ¬ (l.head? = some 48 ∧ 1 < l.length) := fun e => hn1 e.2
          have HH := Lib.hid fun W => hasR S W
          rw [HB.out] at HH
          cases hal : l.all digit
          · have HI : Hid (refR l = .tuple #[.int .i64 0, .int .i64 5]) := by unfold Hid refR reference; rw [if_pos (.inr (.inr (.inr hal)))]
            rw [hal] at HH
            clear hz hn0 hn3 hn1 hx hal hnz
            go_enter Tryd.func48, Tryd.ntmps48
            go_wp2_with fail
            refine (HH.out _).mono ?_
            rintro e w2 ⟨rfl, hb2⟩
            have HB2 := Lib.hid hb2
            clear hb2
            go_wp2_with fail
            refine bodyPost_ret (v := .tuple #[.int .i64 0, .int .i64 5]) (by simp [results, Tryd.results48, go_sem]) rfl ?_
            exact ⟨by rw [HI.out], HB2.out⟩
          · have HA : Hid (∀ W, Calls Tryd.prog 58 #[.string S] W fun e w' => e = .returned (.tuple #[.int .i64 (natV l), .nilIface]) ∧ Below W.heap.size W w') := fun W =>
              (strconv_Atoi S (natV l) (by omega) (by show Lib.atoi (bys S) = _; rw [HB.out]; exact atoi_nat hn0 hal) W).mono fun e w' ⟨a, t, b⟩ => ⟨a, by rw [b]; exact Go.Joins.below_bytesWorld _ W 5 t (Nat.le_refl _)⟩
            have HI : Hid (refR l = if (natV l : Int) < 1 ∨ 255 < (natV l : Int) then .tuple #[.int .i64 0, .int .i64 3] else .tuple #[.int .i64 (natV l), .int .i64 0]) := by
              unfold Hid refR reference
              rw [if_neg (fun e => by rcases e with e | e | e | e; exact hn0 e; omega; exact hnz e; rw [hal] at e; cases e)]
              split
              · rename_i v hv
                split at hv
                · cases hv
                · rename_i h1; cases hv; rw [if_neg h1]
              · rename_i v hv
                split at hv
                · rename_i h1; cases hv; rw [if_pos h1]
                · cases hv
            rw [hal] at HH
            generalize (natV l : Int) = v at *
            clear hz hn0 hn3 hn1 hx hal hnz
            by_cases hv1 : v < 1
            · go_enter Tryd.func48, Tryd.ntmps48
              go_wp2_with fail
              refine (HH.out _).mono ?_
              rintro e w2 ⟨rfl, hb2⟩
              have HB2 := Lib.hid hb2
              clear hb2
              go_wp2_with fail
              refine (HA.out _).mono ?_
              rintro e w3 ⟨rfl, hb3⟩
              have HB3 := Lib.hid (HB2.out.trans (hb3.mono HB2.out.size))
              clear hb3
              go_wp2_with fail
              refine bodyPost_ret (v := .tuple #[.int .i64 0, .int .i64 3]) (by simp [results, Tryd.results48, go_sem]) rfl ?_
              exact ⟨by rw [HI.out, if_pos (.inl hv1)], HB3.out⟩
            · by_cases hv2 : 255 < v
              · go_enter Tryd.func48, Tryd.ntmps48
                go_wp2_with fail
                refine (HH.out _).mono ?_
                rintro e w2 ⟨rfl, hb2⟩
                have HB2 := Lib.hid hb2
                clear hb2
                go_wp2_with fail
                refine (HA.out _).mono ?_
                rintro e w3 ⟨rfl, hb3⟩
                have HB3 := Lib.hid (HB2.out.trans (hb3.mono HB2.out.size))
                clear hb3
                go_wp2_with fail
                refine bodyPost_ret (v := .tuple #[.int .i64 0, .int .i64 3]) (by simp [results, Tryd.results48, go_sem]) rfl ?_
                exact ⟨by rw [HI.out, if_pos (.inr hv2)], HB3.out⟩
              · go_enter Tryd.func48, Tryd.ntmps48
                go_wp2_with fail
                refine (HH.out _).mono ?_
                rintro e w2 ⟨rfl, hb2⟩
                have HB2 := Lib.hid hb2
                clear hb2
                go_wp2_with fail
                refine (HA.out _).mono ?_
                rintro e w3 ⟨rfl, hb3⟩
                have HB3 := Lib.hid (HB2.out.trans (hb3.mono HB2.out.size))
                clear hb3
                go_wp2_with fail
                refine bodyPost_ret (v := .tuple #[.int .i64 v, .int .i64 0]) (by simp [results, Tryd.results48, go_sem]) rfl ?_
                exact ⟨by rw [HI.out, if_neg (by omega)], HB3.out⟩
      · have q1 : (((S[0]'h0).toNat : Int) == 48) = false := by have := bt_ne (S[0]'h0) 48 hx; exact this
        have hnz : ¬ (l.head? = some 48 ∧ 1 < l.length) := fun e => hx (by rw [HX.out] at e; exact Option.some.inj e.1)
        have HH := Lib.hid fun W => hasR S W
        rw [HB.out] at HH
        cases hal : l.all digit
        · have HI : Hid (refR l = .tuple #[.int .i64 0, .int .i64 5]) := by unfold Hid refR reference; rw [if_pos (.inr (.inr (.inr hal)))]
          rw [hal] at HH
          clear hz hn0 hn3 hx hal hnz
          go_enter Tryd.func48, Tryd.ntmps48
          go_wp2_with fail
          refine (HH.out _).mono ?_
          rintro e w2 ⟨rfl, hb2⟩
          have HB2 := Lib.hid hb2
          clear hb2
          go_wp2_with fail
          refine bodyPost_ret (v := .tuple #[.int .i64 0, .int .i64 5]) (by simp [results, Tryd.results48, go_sem]) rfl ?_
          exact ⟨by rw [HI.out], HB2.out⟩
        · have HA : Hid (∀ W, Calls Tryd.prog 58 #[.string S] W fun e w' => e = .returned (.tuple #[.int .i64 (natV l), .nilIface]) ∧ Below W.heap.size W w') := fun W =>
            (strconv_Atoi S (natV l) (by omega) (by show Lib.atoi (bys S) = _; rw [HB.out]; exact atoi_nat hn0 hal) W).mono fun e w' ⟨a, t, b⟩ => ⟨a, by rw [b]; exact Go.Joins.below_bytesWorld _ W 5 t (Nat.le_refl _)⟩
          have HI : Hid (refR l = if (natV l : Int) < 1 ∨ 255 < (natV l : Int) then .tuple #[.int .i64 0, .int .i64 3] else .tuple #[.int .i64 (natV l), .int .i64 0]) := by
            unfold Hid refR reference
            rw [if_neg (fun e => by rcases e with e | e | e | e; exact hn0 e; omega; exact hnz e; rw [hal] at e; cases e)]
            split
            · rename_i v hv
              split at hv
              · cases hv
              · rename_i h1; cases hv; rw [if_neg h1]
            · rename_i v hv
              split at hv
              · rename_i h1; cases hv; rw [if_pos h1]
              · cases hv
          rw [hal] at HH
          generalize (natV l : Int) = v at *
          clear hz hn0 hn3 hx hal hnz
          by_cases hv1 : v < 1
          · go_enter Tryd.func48, Tryd.ntmps48
            go_wp2_with fail
            refine (HH.out _).mono ?_
            rintro e w2 ⟨rfl, hb2⟩
            have HB2 := Lib.hid hb2
            clear hb2
            go_wp2_with fail
            refine (HA.out _).mono ?_
            rintro e w3 ⟨rfl, hb3⟩
            have HB3 := Lib.hid (HB2.out.trans (hb3.mono HB2.out.size))
            clear hb3
            go_wp2_with fail
            refine bodyPost_ret (v := .tuple #[.int .i64 0, .int .i64 3]) (by simp [results, Tryd.results48, go_sem]) rfl ?_
            exact ⟨by rw [HI.out, if_pos (.inl hv1)], HB3.out⟩
          · by_cases hv2 : 255 < v
            · go_enter Tryd.func48, Tryd.ntmps48
              go_wp2_with fail
              refine (HH.out _).mono ?_
              rintro e w2 ⟨rfl, hb2⟩
              have HB2 := Lib.hid hb2
              clear hb2
              go_wp2_with fail
              refine (HA.out _).mono ?_
              rintro e w3 ⟨rfl, hb3⟩
              have HB3 := Lib.hid (HB2.out.trans (hb3.mono HB2.out.size))
              clear hb3
              go_wp2_with fail
              refine bodyPost_ret (v := .tuple #[.int .i64 0, .int .i64 3]) (by simp [results, Tryd.results48, go_sem]) rfl ?_
              exact ⟨by rw [HI.out, if_pos (.inr hv2)], HB3.out⟩
            · go_enter Tryd.func48, Tryd.ntmps48
              go_wp2_with fail
              refine (HH.out _).mono ?_
              rintro e w2 ⟨rfl, hb2⟩
              have HB2 := Lib.hid hb2
              clear hb2
              go_wp2_with fail
              refine (HA.out _).mono ?_
              rintro e w3 ⟨rfl, hb3⟩
              have HB3 := Lib.hid (HB2.out.trans (hb3.mono HB2.out.size))
              clear hb3
              go_wp2_with fail
              refine bodyPost_ret (v := .tuple #[.int .i64 v, .int .i64 0]) (by simp [results, Tryd.results48, go_sem]) rfl ?_
              exact ⟨by rw [HI.out, if_neg (by omega)], HB3.out⟩
end Go.Proofs.YtenhaohooknkfaaDoor
