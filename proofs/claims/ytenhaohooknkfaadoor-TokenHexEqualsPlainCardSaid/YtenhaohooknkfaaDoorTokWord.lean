/- The walk of word. -/
import Derived.Test.YtenhaohooknkfaaDoorTokName
namespace Go.Proofs.YtenhaohooknkfaaDoor
open Go.RowKit Tk
def allC : Bool → Src → Bool
  | _, [] => true
  | b, x :: r => wordC b x && allC false r
theorem allC_all (r : Src) : allC false r = r.all (wordC false) := by
  induction r with
  | nil => rfl
  | cons x r ih => rw [allC, ih]; rfl
theorem word_of (l : Src) : word l = if l.length = 0 then .error 5 else if allC true l then (if 31 < l.length then .error 2 else .ok l) else .error 5 := by
  cases l with
  | nil => rfl
  | cons x r => rw [if_neg (by simp), allC, allC_all]; rfl
def wordR (l : Src) : Value := match word l with
  | .ok v => .tuple #[.string ⟨v.toArray⟩, .int .i64 0]
  | .error e => .tuple #[.string ⟨#[]⟩, .int .i64 e]
set_option maxHeartbeats 4000000 in
theorem word_any (l : Src) (w : World) (hl : l.length ≤ 100000) :
    Calls Tryd.prog 31 #[.string ⟨l.toArray⟩] w fun e w' => e = .returned (wordR l) ∧ w = w' := by
  have HLim := Lib.hid (limited_any l 31 w)
  obtain ⟨S, hS⟩ : ∃ S : ByteArray, S = ⟨l.toArray⟩ := ⟨_, rfl⟩
  have hz : S.size = l.length := by rw [hS, int_size]
  have HB : Hid (bys S = l) := by unfold Hid; rw [hS, int_bys]
  have HEm : Hid (S.toList.isEmpty = decide (l.length = 0)) := by
    unfold Hid
    rw [Lib.toList_data]
    have := HB.out
    unfold bys at this
    rw [this]
    cases l <;> rfl
  have HS := Lib.hid hS
  rw [← hS] at HLim ⊢
  have hs : S.size ≤ 100000 := by omega
  have hs0 : (S.size : Int) ≤ 100000 := by omega
  clear hS
  have HW : Hid (wordR l = if l.length = 0 then .tuple #[.string ⟨#[]⟩, .int .i64 5] else if allC true l then (if 31 < l.length then .tuple #[.string ⟨#[]⟩, .int .i64 2] else .tuple #[.string S, .int .i64 0]) else .tuple #[.string ⟨#[]⟩, .int .i64 5]) := by
    unfold Hid wordR
    rw [word_of, HS.out]
    by_cases h1 : l.length = 0
    · rw [if_pos h1, if_pos h1]
    · rw [if_neg h1, if_neg h1]
      by_cases h2 : allC true l = true
      · rw [if_pos h2, if_pos h2]
        by_cases h3 : 31 < l.length
        · rw [if_pos h3, if_pos h3]
        · rw [if_neg h3, if_neg h3]
      · rw [if_neg h2, if_neg h2]
  have HZ := Lib.hid hz
  clear hz
  go_enter Tryd.func31, Tryd.ntmps31
  go_wp2_with fail
  go_loop [8] (fun v8 => ∃ k : Nat, v8 = .int .i64 k ∧ k ≤ S.size ∧ allC (k == 0) ((bys S).drop k) = allC true l) (fun v8 => S.size - (intOf v8).toNat)
  case atStart => exact ⟨0, rfl, Nat.zero_le _, by rw [HB.out, List.drop_zero]; rfl⟩
  case round =>
    obtain ⟨k, rfl, hk, hac⟩ := hrel
    have HAc := Lib.hid hac
    clear hac
    by_cases hlt : k < S.size
    · have hi1 : (k : Int) < (S.size : Int) := by omega
      have HDr := Lib.hid (drop_byte S k hlt)
      have HA : Hid (allC true l = (wordC (k == 0) (S[k]'hlt) && allC false ((bys S).drop (k + 1)))) := by
        unfold Hid
        rw [← HAc.out, HDr.out, allC]
      have HNx : Hid (wordC (k == 0) (S[k]'hlt) = true → allC ((k + 1) == 0) ((bys S).drop (k + 1)) = allC true l) := fun h => by
        rw [HA.out, h]; simp
      have HBd : Hid (wordC (k == 0) (S[k]'hlt) = false → wordR l = .tuple #[.string ⟨#[]⟩, .int .i64 5]) := fun h => by
        rw [HW.out, if_neg (by have := HZ.out; omega), if_neg (by rw [HA.out, h]; simp)]
      clear HAc HA HDr HLim HW
      have HL := Lib.hid (letter_any (S[k]'hlt) w)
      have HD := Lib.hid (digit_any (S[k]'hlt) w)
      have hxn := (bt_nn (S[k]'hlt)).1
      cases hlet : letter (S[k]'hlt)
      · rw [hlet] at HL
        by_cases h0 : k = 0
        · have hk0 : ((k : Int) == 0) = true := by rw [h0]; rfl
          have hb0 : (k == 0) = true := by rw [h0]; rfl
          rw [hb0] at HNx HBd
          by_cases h42 : S[k]'hlt = 42
          · have q42 : (((S[k]'hlt).toNat : Int) == 42) = true := by rw [h42]; rfl
            have n42 : (((S[k]'hlt).toNat : Int) != 42) = false := by rw [h42]; rfl
            have HSt := Lib.hid (HNx.out (by unfold wordC; rw [h42]; simp))
            clear HNx HBd hlet h0 hb0 h42
            go_wp2_with fail
            refine HL.out.mono ?_
            rintro e w2 ⟨rfl, rfl⟩
            go_wp2_with fail
            go_round
            case rel => exact ⟨k + 1, by go_num, by omega, HSt.out⟩
            case measure => simp [intOf]; omega
          · have q42 : (((S[k]'hlt).toNat : Int) == 42) = false := bt_ne (S[k]'hlt) 42 h42
            have n42 : (((S[k]'hlt).toNat : Int) != 42) = true := by rw [bne, q42]; rfl
            by_cases h95 : S[k]'hlt = 95
            · have q95 : (((S[k]'hlt).toNat : Int) == 95) = true := by rw [h95]; rfl
              have n95 : (((S[k]'hlt).toNat : Int) != 95) = false := by rw [h95]; rfl
              have HSt := Lib.hid (HNx.out (by unfold wordC; rw [h95]; simp))
              clear HNx HBd hlet h0 hb0 h42 h95
              go_wp2_with fail
              refine HL.out.mono ?_
              rintro e w2 ⟨rfl, rfl⟩
              go_wp2_with fail
              go_round
              case rel => exact ⟨k + 1, by go_num, by omega, HSt.out⟩
              case measure => simp [intOf]; omega
            · have q95 : (((S[k]'hlt).toNat : Int) == 95) = false := bt_ne (S[k]'hlt) 95 h95
              have n95 : (((S[k]'hlt).toNat : Int) != 95) = true := by rw [bne, q95]; rfl
              by_cases h46 : S[k]'hlt = 46
              · have q46 : (((S[k]'hlt).toNat : Int) == 46) = true := by rw [h46]; rfl
                have n46 : (((S[k]'hlt).toNat : Int) != 46) = false := by rw [h46]; rfl
                have HSt := Lib.hid (HNx.out (by unfold wordC; rw [h46]; simp))
                clear HNx HBd hlet h0 hb0 h42 h95 h46
                go_wp2_with fail
                refine HL.out.mono ?_
                rintro e w2 ⟨rfl, rfl⟩
                go_wp2_with fail
                go_round
                case rel => exact ⟨k + 1, by go_num, by omega, HSt.out⟩
                case measure => simp [intOf]; omega
              · have q46 : (((S[k]'hlt).toNat : Int) == 46) = false := bt_ne (S[k]'hlt) 46 h46
                have n46 : (((S[k]'hlt).toNat : Int) != 46) = true := by rw [bne, q46]; rfl
                have HSt := Lib.hid (HBd.out (by unfold wordC; simp [hlet, h42, h95, h46]))
                clear HNx HBd hlet h0 hb0 h42 h95 h46
                go_wp2_with fail
                refine HL.out.mono ?_
                rintro e w2 ⟨rfl, rfl⟩
                go_wp2_with fail
                refine bodyPost_ret (v := .tuple #[.string ⟨#[]⟩, .int .i64 5]) (by simp [results, Tryd.results31, go_sem]) rfl ?_
                exact ⟨by rw [HSt.out], rfl⟩
        · have hk0 : ((k : Int) == 0) = false := by rw [beq_eq_false_iff_ne]; omega
          have hb0 : (k == 0) = false := by rw [beq_eq_false_iff_ne]; exact h0
          rw [hb0] at HNx HBd
          cases hdig : digit (S[k]'hlt)
          · rw [hdig] at HD
            by_cases h42 : S[k]'hlt = 42
            · have q42 : (((S[k]'hlt).toNat : Int) == 42) = true := by rw [h42]; rfl
              have n42 : (((S[k]'hlt).toNat : Int) != 42) = false := by rw [h42]; rfl
              have HSt := Lib.hid (HNx.out (by unfold wordC; rw [h42]; simp))
              clear HNx HBd hlet h0 hb0 hdig h42
              go_wp2_with fail
              refine HL.out.mono ?_
              rintro e w2 ⟨rfl, rfl⟩
              go_wp2_with fail
              refine HD.out.mono ?_
              rintro e w2 ⟨rfl, rfl⟩
              go_wp2_with fail
              go_round
              case rel => exact ⟨k + 1, by go_num, by omega, HSt.out⟩
              case measure => simp [intOf]; omega
            · have q42 : (((S[k]'hlt).toNat : Int) == 42) = false := bt_ne (S[k]'hlt) 42 h42
              have n42 : (((S[k]'hlt).toNat : Int) != 42) = true := by rw [bne, q42]; rfl
              by_cases h95 : S[k]'hlt = 95
              · have q95 : (((S[k]'hlt).toNat : Int) == 95) = true := by rw [h95]; rfl
                have n95 : (((S[k]'hlt).toNat : Int) != 95) = false := by rw [h95]; rfl
                have HSt := Lib.hid (HNx.out (by unfold wordC; rw [h95]; simp))
                clear HNx HBd hlet h0 hb0 hdig h42 h95
                go_wp2_with fail
                refine HL.out.mono ?_
                rintro e w2 ⟨rfl, rfl⟩
                go_wp2_with fail
                refine HD.out.mono ?_
                rintro e w2 ⟨rfl, rfl⟩
                go_wp2_with fail
                go_round
                case rel => exact ⟨k + 1, by go_num, by omega, HSt.out⟩
                case measure => simp [intOf]; omega
              · have q95 : (((S[k]'hlt).toNat : Int) == 95) = false := bt_ne (S[k]'hlt) 95 h95
                have n95 : (((S[k]'hlt).toNat : Int) != 95) = true := by rw [bne, q95]; rfl
                by_cases h46 : S[k]'hlt = 46
                · have q46 : (((S[k]'hlt).toNat : Int) == 46) = true := by rw [h46]; rfl
                  have n46 : (((S[k]'hlt).toNat : Int) != 46) = false := by rw [h46]; rfl
                  have HSt := Lib.hid (HNx.out (by unfold wordC; rw [h46]; simp))
                  clear HNx HBd hlet h0 hb0 hdig h42 h95 h46
                  go_wp2_with fail
                  refine HL.out.mono ?_
                  rintro e w2 ⟨rfl, rfl⟩
                  go_wp2_with fail
                  refine HD.out.mono ?_
                  rintro e w2 ⟨rfl, rfl⟩
                  go_wp2_with fail
                  go_round
                  case rel => exact ⟨k + 1, by go_num, by omega, HSt.out⟩
                  case measure => simp [intOf]; omega
                · have q46 : (((S[k]'hlt).toNat : Int) == 46) = false := bt_ne (S[k]'hlt) 46 h46
                  have n46 : (((S[k]'hlt).toNat : Int) != 46) = true := by rw [bne, q46]; rfl
                  have HSt := Lib.hid (HBd.out (by unfold wordC; simp [hlet, hdig, h42, h95, h46]))
                  clear HNx HBd hlet h0 hb0 hdig h42 h95 h46
                  go_wp2_with fail
                  refine HL.out.mono ?_
                  rintro e w2 ⟨rfl, rfl⟩
                  go_wp2_with fail
                  refine HD.out.mono ?_
                  rintro e w2 ⟨rfl, rfl⟩
                  go_wp2_with fail
                  refine bodyPost_ret (v := .tuple #[.string ⟨#[]⟩, .int .i64 5]) (by simp [results, Tryd.results31, go_sem]) rfl ?_
                  exact ⟨by rw [HSt.out], rfl⟩
          · rw [hdig] at HD
            have HSt := Lib.hid (HNx.out (by unfold wordC; simp [hdig]))
            clear HNx HBd hlet h0 hb0 hdig
            go_wp2_with fail
            refine HL.out.mono ?_
            rintro e w2 ⟨rfl, rfl⟩
            go_wp2_with fail
            refine HD.out.mono ?_
            rintro e w2 ⟨rfl, rfl⟩
            go_wp2_with fail
            go_round
            case rel => exact ⟨k + 1, by go_num, by omega, HSt.out⟩
            case measure => simp [intOf]; omega
      · rw [hlet] at HL
        have HSt := Lib.hid (HNx.out (by unfold wordC; simp [hlet]))
        clear HNx HBd hlet
        go_wp2_with fail
        refine HL.out.mono ?_
        rintro e w2 ⟨rfl, rfl⟩
        go_wp2_with fail
        go_round
        case rel => exact ⟨k + 1, by go_num, by omega, HSt.out⟩
        case measure => simp [intOf]; omega
    · have hk2 : k = S.size := by omega
      have HG : Hid (allC true l = true) := by
        unfold Hid
        rw [← HAc.out, List.drop_eq_nil_of_le (by rw [bys_len]; omega)]; rfl
      have hi2 : ¬ (k : Int) < (S.size : Int) := by omega
      clear HAc hlt
      by_cases h0 : l.length = 0
      · have HSt : Hid (wordR l = .tuple #[.string ⟨#[]⟩, .int .i64 5]) := by unfold Hid; rw [HW.out, if_pos h0]
        have he := HEm.out
        rw [decide_eq_true h0] at he
        clear HEm HW h0 HG hk2
        go_wp2_with fail
        refine bodyPost_ret (v := .tuple #[.string ⟨#[]⟩, .int .i64 5]) (by simp [results, Tryd.results31, go_sem]) rfl ?_
        exact ⟨by rw [HSt.out], rfl⟩
      · have he := HEm.out
        rw [decide_eq_false h0] at he
        by_cases h31 : 31 < l.length
        · have HSt : Hid (wordR l = .tuple #[.string ⟨#[]⟩, .int .i64 2]) := by unfold Hid; rw [HW.out, if_neg h0, if_pos HG.out, if_pos h31]
          rw [if_pos h31, if_pos h31] at HLim
          clear HEm HW h0 HG h31 hk2
          go_wp2_with fail
          refine HLim.out.mono ?_
          rintro e w2 ⟨rfl, rfl⟩
          go_wp2_with fail
          refine bodyPost_ret (v := .tuple #[.string ⟨#[]⟩, .int .i64 2]) (by simp [results, Tryd.results31, go_sem]) rfl ?_
          exact ⟨by rw [HSt.out], rfl⟩
        · have HSt : Hid (wordR l = .tuple #[.string S, .int .i64 0]) := by unfold Hid; rw [HW.out, if_neg h0, if_pos HG.out, if_neg h31]
          rw [if_neg h31, if_neg h31, ← HS.out] at HLim
          clear HEm HW h0 HG h31 hk2
          go_wp2_with fail
          refine HLim.out.mono ?_
          rintro e w2 ⟨rfl, rfl⟩
          go_wp2_with fail
          refine bodyPost_ret (v := .tuple #[.string S, .int .i64 0]) (by simp [results, Tryd.results31, go_sem]) rfl ?_
          exact ⟨by rw [HSt.out], rfl⟩
end Go.Proofs.YtenhaohooknkfaaDoor
