/- The walk of printedText. -/
import Derived.Test.YtenhaohooknkfaaDoorTokPrN
namespace Go.Proofs.YtenhaohooknkfaaDoor
open Go.RowKit Tk
theorem prB_le (l : Src) (k : Nat) : ((l.take k).flatMap prByte).length ≤ 4 * k := by
  have := prText_le (l.take k)
  unfold prText at this
  rw [List.length_append, List.length_append, List.length_take] at this
  simp only [List.length_cons, List.length_nil] at this
  omega
set_option maxHeartbeats 8000000 in
theorem prText_any (l : Src) (w : World) (hl : l.length ≤ 100000) :
    Calls Tryd.prog 21 #[.string ⟨l.toArray⟩] w fun e w' => e = .returned (.string ⟨(prText l).toArray⟩) ∧ Below w.heap.size w w' := by
  obtain ⟨S, hS⟩ : ∃ S : ByteArray, S = ⟨l.toArray⟩ := ⟨_, rfl⟩
  rw [← hS]
  have hz : S.size = l.length := by rw [hS]; simp [ByteArray.size]
  have HB : Hid (bys S = l) := by unfold Hid; rw [hS]; simp [bys]
  have hs : S.size ≤ 100000 := by omega
  have hs0 : (S.size : Int) ≤ 100000 := by omega
  have hb1 := (Below.refl w.heap.size w).alloc (Nat.le_refl _) (.cells #[.pointer none, .slice none 0 0] 52)
  have hk1 : Pk (w.heap.size + 1) w.heap.size [] (w.alloc (.cells #[.pointer none, .slice none 0 0] 52)) := pk_fresh (Blk.new w _ _)
  have hs1 : w.heap.size + 1 ≤ (w.alloc (.cells #[.pointer none, .slice none 0 0] 52)).heap.size := by simp
  have HWB : Hid (∀ (W : World) (acc : Src) (v : Int) (c : UInt8), v = bt c → Pk (w.heap.size + 1) w.heap.size acc W → Below w.heap.size w W → w.heap.size + 1 ≤ W.heap.size → acc.length ≤ 1000000 → Calls Tryd.prog 25 #[.pointer (some ⟨w.heap.size, 0, none⟩), .int .u8 v] W fun e w' => e = .returned .nilIface ∧ Pk (w.heap.size + 1) w.heap.size (acc ++ [c]) w' ∧ Below w.heap.size w w' ∧ w.heap.size + 1 ≤ w'.heap.size) := fun W acc v c hv hp hb hz ha =>
    (pk_byte hp c v hv (by omega) hz).mono fun e w' h => ⟨h.1, h.2.1, hb.trans ((FrS.of_x (S := fun k => k = w.heap.size) h.2.2.1 rfl).below (by omega) fun k e => by omega), by have := h.2.2.1.size; omega⟩
  have HWS : Hid (∀ (W : World) (acc : Src) (t : ByteArray) (m : Src), t.data.toList = m → m ≠ [] → Pk (w.heap.size + 1) w.heap.size acc W → Below w.heap.size w W → w.heap.size + 1 ≤ W.heap.size → acc.length ≤ 1000000 → m.length ≤ 100 → Calls Tryd.prog 26 #[.pointer (some ⟨w.heap.size, 0, none⟩), .string t] W fun e w' => ∃ v, e = .returned v ∧ Pk (w.heap.size + 1) w.heap.size (acc ++ m) w' ∧ Below w.heap.size w w' ∧ w.heap.size + 1 ≤ w'.heap.size) := fun W acc t m hm hm0 hp hb hz ha hml =>
    (pk_write hp t (by have : t.size = m.length := by rw [← hm, Array.length_toList]; rfl
                       omega) hz (by rw [hm]; simp [hm0])).mono fun e w' h => ⟨_, h.1, by have := h.2.1; rw [hm] at this; exact this, hb.trans ((FrS.of_x (S := fun k => k = w.heap.size) h.2.2.1 rfl).below (by omega) fun k e => by omega), by have := h.2.2.1.size; omega⟩
  have HB1 := Lib.hid hb1
  have HK1 := Lib.hid hk1
  clear hS hz hb1 hk1
  go_enter Tryd.func21, Tryd.ntmps21
  go_wp2_with fail
  generalize w.alloc (.cells #[.pointer none, .slice none 0 0] 52) = w1 at *
  refine (HWB.out _ _ _ 40 rfl HK1.out HB1.out hs1 (by simp)).mono ?_
  rintro e w2 ⟨rfl, hk2, hb2, hs2⟩
  have HB2 := Lib.hid hb2
  have HK2 : Hid (Pk (w.heap.size + 1) w.heap.size [40] w2) := hk2
  clear hb2 hk2
  go_wp2_with fail
  go_loopw [9] (fun v9 wq => True ∧ ∃ (k : Nat), v9 = .int .i64 k ∧ k ≤ S.size ∧ Pk (w.heap.size + 1) w.heap.size ([40] ++ ((bys S).take k).flatMap prByte) wq ∧ Below w.heap.size w wq ∧ w.heap.size + 1 ≤ wq.heap.size) (fun v9 _ => S.size - (intOf v9).toNat)
  case atStart => exact ⟨trivial, 0, rfl, Nat.zero_le _, by rw [List.take_zero]; exact HK2.out, HB2.out, hs2⟩
  case round =>
    obtain ⟨-, k, rfl, hk, hpk, hbl, hsz⟩ := hrel
    have HPk := Lib.hid hpk
    have HBl := Lib.hid hbl
    clear hpk hbl
    by_cases hlt : k < S.size
    · have hi1 : (k : Int) < (S.size : Int) := by omega
      have hxn := (bt_nn (S[k]'hlt)).1
      have hxn2 := (bt_nn (S[k]'hlt)).2
      have HTk : Hid ([40] ++ ((bys S).take (k + 1)).flatMap prByte = ([40] ++ ((bys S).take k).flatMap prByte) ++ prByte (S[k]'hlt)) := by
        unfold Hid
        rw [take_byte S k hlt, List.flatMap_append]
        simp
      have hln : ([40] ++ ((bys S).take k).flatMap prByte).length ≤ 4 * k + 1 := by have := prB_le (bys S) k; rw [List.length_append, List.length_singleton]; omega
      generalize [40] ++ ((bys S).take k).flatMap prByte = acc at *
      by_cases h10 : S[k]'hlt = 10
      · have hx := h10
        have q10 : (((S[k]'hlt).toNat : Int) == 10) = true := by rw [hx]; rfl
        have q9 : (((S[k]'hlt).toNat : Int) == 9) = false := by rw [hx]; rfl
        have q40 : (((S[k]'hlt).toNat : Int) == 40) = false := by rw [hx]; rfl
        have q41 : (((S[k]'hlt).toNat : Int) == 41) = false := by rw [hx]; rfl
        have q92 : (((S[k]'hlt).toNat : Int) == 92) = false := by rw [hx]; rfl
        have HPb : Hid (prByte (S[k]'hlt) = [92, 110]) := by unfold Hid; rw [hx]; rfl
        clear hx h10
        go_wp2_with fail
        refine (HWS.out _ _ _ [92, 110] rfl (by simp) HPk.out HBl.out hsz (by omega) (by simp)).mono ?_
        rintro e x1 ⟨vv1, rfl, hpk1, hbl1, hsz1⟩
        have HPk1 := Lib.hid hpk1
        have HBl1 := Lib.hid hbl1
        clear hpk1 hbl1
        go_wp2_with fail
        go_roundw
        case rel => exact ⟨trivial, k + 1, by go_num, by omega, (by rw [HTk.out, HPb.out]; have := HPk1.out; simpa [List.append_assoc] using this), HBl1.out, hsz1⟩
        case measure => simp [intOf]; omega
      · by_cases h9 : S[k]'hlt = 9
        · have hx := h9
          have q10 : (((S[k]'hlt).toNat : Int) == 10) = false := by rw [hx]; rfl
          have q9 : (((S[k]'hlt).toNat : Int) == 9) = true := by rw [hx]; rfl
          have q40 : (((S[k]'hlt).toNat : Int) == 40) = false := by rw [hx]; rfl
          have q41 : (((S[k]'hlt).toNat : Int) == 41) = false := by rw [hx]; rfl
          have q92 : (((S[k]'hlt).toNat : Int) == 92) = false := by rw [hx]; rfl
          have HPb : Hid (prByte (S[k]'hlt) = [92, 116]) := by unfold Hid; rw [hx]; rfl
          clear hx h10 h9
          go_wp2_with fail
          refine (HWS.out _ _ _ [92, 116] rfl (by simp) HPk.out HBl.out hsz (by omega) (by simp)).mono ?_
          rintro e x1 ⟨vv1, rfl, hpk1, hbl1, hsz1⟩
          have HPk1 := Lib.hid hpk1
          have HBl1 := Lib.hid hbl1
          clear hpk1 hbl1
          go_wp2_with fail
          go_roundw
          case rel => exact ⟨trivial, k + 1, by go_num, by omega, (by rw [HTk.out, HPb.out]; have := HPk1.out; simpa [List.append_assoc] using this), HBl1.out, hsz1⟩
          case measure => simp [intOf]; omega
        · by_cases h40 : S[k]'hlt = 40
          · have hx := h40
            have q10 : (((S[k]'hlt).toNat : Int) == 10) = false := by rw [hx]; rfl
            have q9 : (((S[k]'hlt).toNat : Int) == 9) = false := by rw [hx]; rfl
            have q40 : (((S[k]'hlt).toNat : Int) == 40) = true := by rw [hx]; rfl
            have q41 : (((S[k]'hlt).toNat : Int) == 41) = false := by rw [hx]; rfl
            have q92 : (((S[k]'hlt).toNat : Int) == 92) = false := by rw [hx]; rfl
            have HPb : Hid (prByte (S[k]'hlt) = [92, S[k]'hlt]) := by unfold Hid; rw [hx]; rfl
            clear hx h10 h9 h40
            go_wp2_with fail
            refine (HWB.out _ _ _ 92 rfl HPk.out HBl.out hsz (by omega)).mono ?_
            rintro e x1 ⟨rfl, hpk1, hbl1, hsz1⟩
            have HPk1 := Lib.hid hpk1
            have HBl1 := Lib.hid hbl1
            clear hpk1 hbl1
            go_wp2_with fail
            refine (HWB.out _ _ _ (S[k]'hlt) rfl HPk1.out HBl1.out hsz1 (by simp only [List.length_append, List.length_cons, List.length_nil]; omega)).mono ?_
            rintro e x2 ⟨rfl, hpk2, hbl2, hsz2⟩
            have HPk2 := Lib.hid hpk2
            have HBl2 := Lib.hid hbl2
            clear hpk2 hbl2
            go_wp2_with fail
            go_roundw
            case rel => exact ⟨trivial, k + 1, by go_num, by omega, (by rw [HTk.out, HPb.out]; have := HPk2.out; simpa [List.append_assoc] using this), HBl2.out, hsz2⟩
            case measure => simp [intOf]; omega
          · by_cases h41 : S[k]'hlt = 41
            · have hx := h41
              have q10 : (((S[k]'hlt).toNat : Int) == 10) = false := by rw [hx]; rfl
              have q9 : (((S[k]'hlt).toNat : Int) == 9) = false := by rw [hx]; rfl
              have q40 : (((S[k]'hlt).toNat : Int) == 40) = false := by rw [hx]; rfl
              have q41 : (((S[k]'hlt).toNat : Int) == 41) = true := by rw [hx]; rfl
              have q92 : (((S[k]'hlt).toNat : Int) == 92) = false := by rw [hx]; rfl
              have HPb : Hid (prByte (S[k]'hlt) = [92, S[k]'hlt]) := by unfold Hid; rw [hx]; rfl
              clear hx h10 h9 h40 h41
              go_wp2_with fail
              refine (HWB.out _ _ _ 92 rfl HPk.out HBl.out hsz (by omega)).mono ?_
              rintro e x1 ⟨rfl, hpk1, hbl1, hsz1⟩
              have HPk1 := Lib.hid hpk1
              have HBl1 := Lib.hid hbl1
              clear hpk1 hbl1
              go_wp2_with fail
              refine (HWB.out _ _ _ (S[k]'hlt) rfl HPk1.out HBl1.out hsz1 (by simp only [List.length_append, List.length_cons, List.length_nil]; omega)).mono ?_
              rintro e x2 ⟨rfl, hpk2, hbl2, hsz2⟩
              have HPk2 := Lib.hid hpk2
              have HBl2 := Lib.hid hbl2
              clear hpk2 hbl2
              go_wp2_with fail
              go_roundw
              case rel => exact ⟨trivial, k + 1, by go_num, by omega, (by rw [HTk.out, HPb.out]; have := HPk2.out; simpa [List.append_assoc] using this), HBl2.out, hsz2⟩
              case measure => simp [intOf]; omega
            · by_cases h92 : S[k]'hlt = 92
              · have hx := h92
                have q10 : (((S[k]'hlt).toNat : Int) == 10) = false := by rw [hx]; rfl
                have q9 : (((S[k]'hlt).toNat : Int) == 9) = false := by rw [hx]; rfl
                have q40 : (((S[k]'hlt).toNat : Int) == 40) = false := by rw [hx]; rfl
                have q41 : (((S[k]'hlt).toNat : Int) == 41) = false := by rw [hx]; rfl
                have q92 : (((S[k]'hlt).toNat : Int) == 92) = true := by rw [hx]; rfl
                have HPb : Hid (prByte (S[k]'hlt) = [92, S[k]'hlt]) := by unfold Hid; rw [hx]; rfl
                clear hx h10 h9 h40 h41 h92
                go_wp2_with fail
                refine (HWB.out _ _ _ 92 rfl HPk.out HBl.out hsz (by omega)).mono ?_
                rintro e x1 ⟨rfl, hpk1, hbl1, hsz1⟩
                have HPk1 := Lib.hid hpk1
                have HBl1 := Lib.hid hbl1
                clear hpk1 hbl1
                go_wp2_with fail
                refine (HWB.out _ _ _ (S[k]'hlt) rfl HPk1.out HBl1.out hsz1 (by simp only [List.length_append, List.length_cons, List.length_nil]; omega)).mono ?_
                rintro e x2 ⟨rfl, hpk2, hbl2, hsz2⟩
                have HPk2 := Lib.hid hpk2
                have HBl2 := Lib.hid hbl2
                clear hpk2 hbl2
                go_wp2_with fail
                go_roundw
                case rel => exact ⟨trivial, k + 1, by go_num, by omega, (by rw [HTk.out, HPb.out]; have := HPk2.out; simpa [List.append_assoc] using this), HBl2.out, hsz2⟩
                case measure => simp [intOf]; omega
              · have q10 : (((S[k]'hlt).toNat : Int) == 10) = false := bt_ne (S[k]'hlt) 10 h10
                have q9 : (((S[k]'hlt).toNat : Int) == 9) = false := bt_ne (S[k]'hlt) 9 h9
                have q40 : (((S[k]'hlt).toNat : Int) == 40) = false := bt_ne (S[k]'hlt) 40 h40
                have q41 : (((S[k]'hlt).toNat : Int) == 41) = false := bt_ne (S[k]'hlt) 41 h41
                have q92 : (((S[k]'hlt).toNat : Int) == 92) = false := bt_ne (S[k]'hlt) 92 h92
                by_cases hlo : (S[k]'hlt) < 32
                · have b32 : (((S[k]'hlt).toNat : Int) < 32) := by have := UInt8.lt_iff_toNat_lt.1 hlo; have h32 : (32 : UInt8).toNat = 32 := rfl; omega
                  have HPb : Hid (prByte (S[k]'hlt) = [92, 120, hexC ((S[k]'hlt) >>> 4), hexC ((S[k]'hlt) &&& 15)]) := by
                    unfold Hid prByte
                    rw [if_neg (by simpa using h10), if_neg (by simpa using h9), if_neg (by simp [h40, h41, h92]), if_pos (by simp [hlo])]
                  have h16 : ((S[k]'hlt).toNat : Int) / 16 < 16 := by unfold bt at hxn2; omega
                  have h160 : (0 : Int) ≤ ((S[k]'hlt).toNat : Int) / 16 := by unfold bt at hxn; omega
                  clear hlo h10 h9 h40 h41 h92
                  go_wp2_with fail
                  refine (HWS.out _ _ _ [92, 120] rfl (by simp) HPk.out HBl.out hsz (by omega) (by simp)).mono ?_
                  rintro e x1 ⟨vv1, rfl, hpk1, hbl1, hsz1⟩
                  have HPk1 := Lib.hid hpk1
                  have HBl1 := Lib.hid hbl1
                  clear hpk1 hbl1
                  go_wp2_with fail
                  refine (HWB.out _ _ _ (hexC ((S[k]'hlt) >>> 4)) (dig_hi _ _) HPk1.out HBl1.out hsz1 (by simp only [List.length_append, List.length_cons, List.length_nil]; omega)).mono ?_
                  rintro e x2 ⟨rfl, hpk2, hbl2, hsz2⟩
                  have HPk2 := Lib.hid hpk2
                  have HBl2 := Lib.hid hbl2
                  clear hpk2 hbl2
                  go_wp2_with fail
                  refine (HWB.out _ _ _ (hexC ((S[k]'hlt) &&& 15)) (dig_lo _ _) HPk2.out HBl2.out hsz2 (by simp only [List.length_append, List.length_cons, List.length_nil]; omega)).mono ?_
                  rintro e x3 ⟨rfl, hpk3, hbl3, hsz3⟩
                  have HPk3 := Lib.hid hpk3
                  have HBl3 := Lib.hid hbl3
                  clear hpk3 hbl3
                  go_wp2_with fail
                  go_roundw
                  case rel => exact ⟨trivial, k + 1, by go_num, by omega, (by rw [HTk.out, HPb.out]; have := HPk3.out; simpa [List.append_assoc] using this), HBl3.out, hsz3⟩
                  case measure => simp [intOf]; omega
                · have hlo1 := hlo
                  clear hlo
                  have b32 : ¬ (((S[k]'hlt).toNat : Int) < 32) := fun e => hlo1 (UInt8.lt_iff_toNat_lt.2 (by have h32 : (32 : UInt8).toNat = 32 := rfl; omega))
                  by_cases hlo : 125 < (S[k]'hlt)
                  · have b125 : ((125 : Int) < ((S[k]'hlt).toNat : Int)) := by have := UInt8.lt_iff_toNat_lt.1 hlo; have h125 : (125 : UInt8).toNat = 125 := rfl; omega
                    have HPb : Hid (prByte (S[k]'hlt) = [92, 120, hexC ((S[k]'hlt) >>> 4), hexC ((S[k]'hlt) &&& 15)]) := by
                      unfold Hid prByte
                      rw [if_neg (by simpa using h10), if_neg (by simpa using h9), if_neg (by simp [h40, h41, h92]), if_pos (by simp [hlo])]
                    have h16 : ((S[k]'hlt).toNat : Int) / 16 < 16 := by unfold bt at hxn2; omega
                    have h160 : (0 : Int) ≤ ((S[k]'hlt).toNat : Int) / 16 := by unfold bt at hxn; omega
                    clear hlo h10 h9 h40 h41 h92 hlo1
                    go_wp2_with fail
                    refine (HWS.out _ _ _ [92, 120] rfl (by simp) HPk.out HBl.out hsz (by omega) (by simp)).mono ?_
                    rintro e x1 ⟨vv1, rfl, hpk1, hbl1, hsz1⟩
                    have HPk1 := Lib.hid hpk1
                    have HBl1 := Lib.hid hbl1
                    clear hpk1 hbl1
                    go_wp2_with fail
                    refine (HWB.out _ _ _ (hexC ((S[k]'hlt) >>> 4)) (dig_hi _ _) HPk1.out HBl1.out hsz1 (by simp only [List.length_append, List.length_cons, List.length_nil]; omega)).mono ?_
                    rintro e x2 ⟨rfl, hpk2, hbl2, hsz2⟩
                    have HPk2 := Lib.hid hpk2
                    have HBl2 := Lib.hid hbl2
                    clear hpk2 hbl2
                    go_wp2_with fail
                    refine (HWB.out _ _ _ (hexC ((S[k]'hlt) &&& 15)) (dig_lo _ _) HPk2.out HBl2.out hsz2 (by simp only [List.length_append, List.length_cons, List.length_nil]; omega)).mono ?_
                    rintro e x3 ⟨rfl, hpk3, hbl3, hsz3⟩
                    have HPk3 := Lib.hid hpk3
                    have HBl3 := Lib.hid hbl3
                    clear hpk3 hbl3
                    go_wp2_with fail
                    go_roundw
                    case rel => exact ⟨trivial, k + 1, by go_num, by omega, (by rw [HTk.out, HPb.out]; have := HPk3.out; simpa [List.append_assoc] using this), HBl3.out, hsz3⟩
                    case measure => simp [intOf]; omega
                  · have hlo2 := hlo
                    clear hlo
                    have b125 : ¬ ((125 : Int) < ((S[k]'hlt).toNat : Int)) := fun e => hlo2 (UInt8.lt_iff_toNat_lt.2 (by have h125 : (125 : UInt8).toNat = 125 := rfl; omega))
                    have HPb : Hid (prByte (S[k]'hlt) = [S[k]'hlt]) := by
                      unfold Hid prByte
                      rw [if_neg (by simpa using h10), if_neg (by simpa using h9), if_neg (by simp [h40, h41, h92]), if_neg (by simp [hlo1, hlo2])]
                    clear hlo1 hlo2 h10 h9 h40 h41 h92
                    go_wp2_with fail
                    refine (HWB.out _ _ _ (S[k]'hlt) rfl HPk.out HBl.out hsz (by omega)).mono ?_
                    rintro e x1 ⟨rfl, hpk1, hbl1, hsz1⟩
                    have HPk1 := Lib.hid hpk1
                    have HBl1 := Lib.hid hbl1
                    clear hpk1 hbl1
                    go_wp2_with fail
                    go_roundw
                    case rel => exact ⟨trivial, k + 1, by go_num, by omega, (by rw [HTk.out, HPb.out]; have := HPk1.out; simpa [List.append_assoc] using this), HBl1.out, hsz1⟩
                    case measure => simp [intOf]; omega
    · have hk2 : k = S.size := by omega
      have hln : ([40] ++ ((bys S).take k).flatMap prByte).length ≤ 4 * k + 1 := by have := prB_le (bys S) k; rw [List.length_append, List.length_singleton]; omega
      have HTk : Hid ((bys S).take k = l) := by unfold Hid; rw [List.take_of_length_le (by rw [bys_len]; omega), HB.out]
      have hi2 : ¬ (k : Int) < (S.size : Int) := by omega
      rw [HTk.out] at HPk hln
      obtain ⟨sv, hsv⟩ : ∃ sv : ByteArray, sv = ⟨(prText l).toArray⟩ := ⟨_, rfl⟩
      have HSv := Lib.hid hsv
      have HC : Hid (∀ W, Pk (w.heap.size + 1) w.heap.size (prText l) W → Calls Tryd.prog 28 #[.pointer (some ⟨w.heap.size, 0, none⟩)] W fun e w' => e = .returned (.string sv) ∧ FrX (w.heap.size + 1) w.heap.size W w') := fun W h => by rw [hsv]; exact pk_string h
      clear hlt hsv hk2
      go_wp2_with fail
      refine (HWB.out _ _ _ 41 rfl HPk.out HBl.out hsz (by omega)).mono ?_
      rintro e w3 ⟨rfl, hk3, hb3, hs3⟩
      have HB3 := Lib.hid hb3
      have HK3 : Hid (Pk (w.heap.size + 1) w.heap.size (prText l) w3) := hk3
      clear hb3 hk3
      go_wp2_with fail
      refine (HC.out _ HK3.out).mono ?_
      rintro e w4 ⟨rfl, hfx⟩
      have HF := Lib.hid (HB3.out.trans ((FrS.of_x (S := fun k => k = w.heap.size) hfx rfl).below (by omega) fun k e => by omega))
      clear hfx
      go_wp2_with fail
      refine bodyPost_ret (v := .string sv) (by simp [results, Tryd.results21, go_sem]) rfl ?_
      exact ⟨by rw [HSv.out], HF.out⟩
end Go.Proofs.YtenhaohooknkfaaDoor
