/- The walk of printedName. -/
import Derived.Test.YtenhaohooknkfaaDoorTokText
import Derived.Test.YtenhaohooknkfaaDoorTokValid
namespace Go.Proofs.YtenhaohooknkfaaDoor
open Go.RowKit Tk
theorem dig_hi (x : UInt8) (h : x.toNat / 16 < (⟨#[48, 49, 50, 51, 52, 53, 54, 55, 56, 57, 97, 98, 99, 100, 101, 102]⟩ : ByteArray).size) : (((⟨#[48, 49, 50, 51, 52, 53, 54, 55, 56, 57, 97, 98, 99, 100, 101, 102]⟩ : ByteArray)[x.toNat / 16]'h).toNat : Int) = bt (hexC (x >>> 4)) := by
  have := u8_all (fun x => (⟨#[48, 49, 50, 51, 52, 53, 54, 55, 56, 57, 97, 98, 99, 100, 101, 102]⟩ : ByteArray).data.toList[x.toNat / 16]? == some (hexC (x >>> 4))) (by decide +kernel) x
  have h2 := beq_iff_eq.1 this
  rw [List.getElem?_eq_getElem (by show x.toNat / 16 < 16; have := x.toNat_lt; omega)] at h2
  have h3 := Option.some.inj h2
  unfold bt
  rw [← h3]; rfl
theorem dig_lo (x : UInt8) (h : x.toNat % 16 < (⟨#[48, 49, 50, 51, 52, 53, 54, 55, 56, 57, 97, 98, 99, 100, 101, 102]⟩ : ByteArray).size) : (((⟨#[48, 49, 50, 51, 52, 53, 54, 55, 56, 57, 97, 98, 99, 100, 101, 102]⟩ : ByteArray)[x.toNat % 16]'h).toNat : Int) = bt (hexC (x &&& 15)) := by
  have := u8_all (fun x => (⟨#[48, 49, 50, 51, 52, 53, 54, 55, 56, 57, 97, 98, 99, 100, 101, 102]⟩ : ByteArray).data.toList[x.toNat % 16]? == some (hexC (x &&& 15))) (by decide +kernel) x
  have h2 := beq_iff_eq.1 this
  rw [List.getElem?_eq_getElem (by show x.toNat % 16 < 16; omega)] at h2
  have h3 := Option.some.inj h2
  unfold bt
  rw [← h3]; rfl
theorem take_byte (S : ByteArray) (k : Nat) (h : k < S.size) : (bys S).take (k + 1) = (bys S).take k ++ [S[k]'h] := by
  rw [List.take_succ_eq_append_getElem (by rw [bys_len]; exact h)]; rfl
theorem byts_len_le (l : Src) (k : Nat) : (prName (l.take k)).length ≤ 3 * k := by
  have := prName_le (l.take k); rw [List.length_take] at this; omega
set_option maxHeartbeats 8000000 in
theorem prName_any (l : Src) (w : World) (hl : l.length ≤ 100000) :
    Calls Tryd.prog 20 #[.string ⟨l.toArray⟩] w fun e w' => e = .returned (.string ⟨(prName l).toArray⟩) ∧ Below w.heap.size w w' := by
  obtain ⟨S, hS⟩ : ∃ S : ByteArray, S = ⟨l.toArray⟩ := ⟨_, rfl⟩
  rw [← hS]
  have hz : S.size = l.length := by rw [hS]; simp [ByteArray.size]
  have HB : Hid (bys S = l) := by unfold Hid; rw [hS]; simp [bys]
  have hs : S.size ≤ 100000 := by omega
  have hs0 : (S.size : Int) ≤ 100000 := by omega
  have hb1 := (Below.refl w.heap.size w).alloc (Nat.le_refl _) (.cells #[.pointer none, .slice none 0 0] 52)
  have hk1 : Pk (w.heap.size + 1) w.heap.size [] (w.alloc (.cells #[.pointer none, .slice none 0 0] 52)) := pk_fresh (Blk.new w _ _)
  have hs1 : w.heap.size + 1 ≤ (w.alloc (.cells #[.pointer none, .slice none 0 0] 52)).heap.size := by simp
  have HB1 := Lib.hid hb1
  have HK1 := Lib.hid hk1
  clear hS hz hb1 hk1
  go_enter Tryd.func20, Tryd.ntmps20
  go_wp2_with fail
  generalize w.alloc (.cells #[.pointer none, .slice none 0 0] 52) = w1 at *
  go_loopw [8] (fun v8 wq => True ∧ ∃ (k : Nat), v8 = .int .i64 k ∧ k ≤ S.size ∧ Pk (w.heap.size + 1) w.heap.size (prName ((bys S).take k)) wq ∧ Below w.heap.size w wq ∧ w.heap.size + 1 ≤ wq.heap.size) (fun v8 _ => S.size - (intOf v8).toNat)
  case atStart => exact ⟨trivial, 0, rfl, Nat.zero_le _, by rw [List.take_zero]; exact HK1.out, HB1.out, hs1⟩
  case round =>
    obtain ⟨-, k, rfl, hk, hpk, hbl, hsz⟩ := hrel
    have HPk := Lib.hid hpk
    have HBl := Lib.hid hbl
    have HWB : Hid (∀ (W : World) (acc : Src) (v : Int) (c : UInt8), v = bt c → Pk (w.heap.size + 1) w.heap.size acc W → Below w.heap.size w W → w.heap.size + 1 ≤ W.heap.size → acc.length ≤ 1000000 → Calls Tryd.prog 25 #[.pointer (some ⟨w.heap.size, 0, none⟩), .int .u8 v] W fun e w' => e = .returned .nilIface ∧ Pk (w.heap.size + 1) w.heap.size (acc ++ [c]) w' ∧ Below w.heap.size w w' ∧ w.heap.size + 1 ≤ w'.heap.size) := fun W acc v c hv hp hb hz ha =>
      (pk_byte hp c v hv (by omega) hz).mono fun e w' h => ⟨h.1, h.2.1, hb.trans ((FrS.of_x (S := fun k => k = w.heap.size) h.2.2.1 rfl).below (by omega) fun k e => by omega), by have := h.2.2.1.size; omega⟩
    clear hpk hbl
    by_cases hlt : k < S.size
    · have hi1 : (k : Int) < (S.size : Int) := by omega
      have HL := Lib.hid fun W => letter_any (S[k]'hlt) W
      have HD := Lib.hid fun W => digit_any (S[k]'hlt) W
      have hxn := (bt_nn (S[k]'hlt)).1
      have hxn2 := (bt_nn (S[k]'hlt)).2
      have HTk : Hid (prName ((bys S).take (k + 1)) = prName ((bys S).take k) ++ if plainName (S[k]'hlt) = true then [S[k]'hlt] else [35, hexC ((S[k]'hlt) >>> 4), hexC ((S[k]'hlt) &&& 15)]) := by
        unfold Hid
        rw [take_byte S k hlt]
        unfold prName
        rw [List.flatMap_append]
        simp
      have hln := byts_len_le (bys S) k
      generalize prName ((bys S).take k) = acc at *
      cases hlet : letter (S[k]'hlt)
      · rw [hlet] at HL
        cases hdig : digit (S[k]'hlt)
        · rw [hdig] at HD
          by_cases h95 : S[k]'hlt = 95
          · have q95 : (((S[k]'hlt).toNat : Int) == 95) = true := by rw [h95]; rfl
            have HPl : Hid (plainName (S[k]'hlt) = true) := by unfold Hid; rw [h95]; decide
            clear hlet hdig h95
            go_wp2_with fail
            refine (HL.out _).mono ?_
            rintro e w2 ⟨rfl, rfl⟩
            go_wp2_with fail
            refine (HD.out _).mono ?_
            rintro e w2 ⟨rfl, rfl⟩
            go_wp2_with fail
            refine (HWB.out _ _ _ (S[k]'hlt) rfl HPk.out HBl.out hsz (by omega)).mono ?_
            rintro e x1 ⟨rfl, hpk1, hbl1, hsz1⟩
            have HPk1 := Lib.hid hpk1
            have HBl1 := Lib.hid hbl1
            clear hpk1 hbl1
            go_wp2_with fail
            go_roundw
            case rel => exact ⟨trivial, k + 1, by go_num, by omega, (by rw [HTk.out, if_pos HPl.out]; exact HPk1.out), HBl1.out, hsz1⟩
            case measure => simp [intOf]; omega
          · have q95 : (((S[k]'hlt).toNat : Int) == 95) = false := bt_ne (S[k]'hlt) 95 h95
            by_cases h45 : S[k]'hlt = 45
            · have q45 : (((S[k]'hlt).toNat : Int) == 45) = true := by rw [h45]; rfl
              have HPl : Hid (plainName (S[k]'hlt) = true) := by unfold Hid; rw [h45]; decide
              clear hlet hdig h95 h45
              go_wp2_with fail
              refine (HL.out _).mono ?_
              rintro e w2 ⟨rfl, rfl⟩
              go_wp2_with fail
              refine (HD.out _).mono ?_
              rintro e w2 ⟨rfl, rfl⟩
              go_wp2_with fail
              refine (HWB.out _ _ _ (S[k]'hlt) rfl HPk.out HBl.out hsz (by omega)).mono ?_
              rintro e x1 ⟨rfl, hpk1, hbl1, hsz1⟩
              have HPk1 := Lib.hid hpk1
              have HBl1 := Lib.hid hbl1
              clear hpk1 hbl1
              go_wp2_with fail
              go_roundw
              case rel => exact ⟨trivial, k + 1, by go_num, by omega, (by rw [HTk.out, if_pos HPl.out]; exact HPk1.out), HBl1.out, hsz1⟩
              case measure => simp [intOf]; omega
            · have q45 : (((S[k]'hlt).toNat : Int) == 45) = false := bt_ne (S[k]'hlt) 45 h45
              by_cases h46 : S[k]'hlt = 46
              · have q46 : (((S[k]'hlt).toNat : Int) == 46) = true := by rw [h46]; rfl
                have HPl : Hid (plainName (S[k]'hlt) = true) := by unfold Hid; rw [h46]; decide
                clear hlet hdig h95 h45 h46
                go_wp2_with fail
                refine (HL.out _).mono ?_
                rintro e w2 ⟨rfl, rfl⟩
                go_wp2_with fail
                refine (HD.out _).mono ?_
                rintro e w2 ⟨rfl, rfl⟩
                go_wp2_with fail
                refine (HWB.out _ _ _ (S[k]'hlt) rfl HPk.out HBl.out hsz (by omega)).mono ?_
                rintro e x1 ⟨rfl, hpk1, hbl1, hsz1⟩
                have HPk1 := Lib.hid hpk1
                have HBl1 := Lib.hid hbl1
                clear hpk1 hbl1
                go_wp2_with fail
                go_roundw
                case rel => exact ⟨trivial, k + 1, by go_num, by omega, (by rw [HTk.out, if_pos HPl.out]; exact HPk1.out), HBl1.out, hsz1⟩
                case measure => simp [intOf]; omega
              · have q46 : (((S[k]'hlt).toNat : Int) == 46) = false := bt_ne (S[k]'hlt) 46 h46
                have HPl : Hid (¬ plainName (S[k]'hlt) = true) := by unfold Hid plainName; rw [hlet, hdig]; simp [h95, h45, h46]
                have h16 : ((S[k]'hlt).toNat : Int) / 16 < 16 := by unfold bt at hxn2; omega
                have h160 : (0 : Int) ≤ ((S[k]'hlt).toNat : Int) / 16 := by unfold bt at hxn; omega
                clear hlet hdig h95 h45 h46
                go_wp2_with fail
                refine (HL.out _).mono ?_
                rintro e w2 ⟨rfl, rfl⟩
                go_wp2_with fail
                refine (HD.out _).mono ?_
                rintro e w2 ⟨rfl, rfl⟩
                go_wp2_with fail
                refine (HWB.out _ _ _ 35 rfl HPk.out HBl.out hsz (by omega)).mono ?_
                rintro e x1 ⟨rfl, hpk1, hbl1, hsz1⟩
                have HPk1 := Lib.hid hpk1
                have HBl1 := Lib.hid hbl1
                clear hpk1 hbl1
                go_wp2_with fail
                refine (HWB.out _ _ _ (hexC ((S[k]'hlt) >>> 4)) (dig_hi _ _) HPk1.out HBl1.out hsz1 (by rw [List.length_append, List.length_singleton]; omega)).mono ?_
                rintro e x2 ⟨rfl, hpk2, hbl2, hsz2⟩
                have HPk2 := Lib.hid hpk2
                have HBl2 := Lib.hid hbl2
                clear hpk2 hbl2
                go_wp2_with fail
                refine (HWB.out _ _ _ (hexC ((S[k]'hlt) &&& 15)) (dig_lo _ _) HPk2.out HBl2.out hsz2 (by rw [List.length_append, List.length_append, List.length_singleton, List.length_singleton]; omega)).mono ?_
                rintro e x3 ⟨rfl, hpk3, hbl3, hsz3⟩
                have HPk3 := Lib.hid hpk3
                have HBl3 := Lib.hid hbl3
                clear hpk3 hbl3
                go_wp2_with fail
                go_roundw
                case rel => exact ⟨trivial, k + 1, by go_num, by omega, (by rw [HTk.out, if_neg HPl.out]; have := HPk3.out; simpa [List.append_assoc] using this), HBl3.out, hsz3⟩
                case measure => simp [intOf]; omega
        · rw [hdig] at HD
          have HPl : Hid (plainName (S[k]'hlt) = true) := by unfold Hid plainName; rw [hdig]; simp
          clear hlet hdig
          go_wp2_with fail
          refine (HL.out _).mono ?_
          rintro e w2 ⟨rfl, rfl⟩
          go_wp2_with fail
          refine (HD.out _).mono ?_
          rintro e w2 ⟨rfl, rfl⟩
          go_wp2_with fail
          refine (HWB.out _ _ _ (S[k]'hlt) rfl HPk.out HBl.out hsz (by omega)).mono ?_
          rintro e x1 ⟨rfl, hpk1, hbl1, hsz1⟩
          have HPk1 := Lib.hid hpk1
          have HBl1 := Lib.hid hbl1
          clear hpk1 hbl1
          go_wp2_with fail
          go_roundw
          case rel => exact ⟨trivial, k + 1, by go_num, by omega, (by rw [HTk.out, if_pos HPl.out]; exact HPk1.out), HBl1.out, hsz1⟩
          case measure => simp [intOf]; omega
      · rw [hlet] at HL
        have HPl : Hid (plainName (S[k]'hlt) = true) := by unfold Hid plainName; rw [hlet]; simp
        clear hlet
        go_wp2_with fail
        refine (HL.out _).mono ?_
        rintro e w2 ⟨rfl, rfl⟩
        go_wp2_with fail
        refine (HWB.out _ _ _ (S[k]'hlt) rfl HPk.out HBl.out hsz (by omega)).mono ?_
        rintro e x1 ⟨rfl, hpk1, hbl1, hsz1⟩
        have HPk1 := Lib.hid hpk1
        have HBl1 := Lib.hid hbl1
        clear hpk1 hbl1
        go_wp2_with fail
        go_roundw
        case rel => exact ⟨trivial, k + 1, by go_num, by omega, (by rw [HTk.out, if_pos HPl.out]; exact HPk1.out), HBl1.out, hsz1⟩
        case measure => simp [intOf]; omega
    · have hk2 : k = S.size := by omega
      have HTk : Hid ((bys S).take k = l) := by unfold Hid; rw [List.take_of_length_le (by rw [bys_len]; omega), HB.out]
      have hi2 : ¬ (k : Int) < (S.size : Int) := by omega
      rw [HTk.out] at HPk
      obtain ⟨sv, hsv⟩ : ∃ sv : ByteArray, sv = ⟨(prName l).toArray⟩ := ⟨_, rfl⟩
      have HC : Hid (Calls Tryd.prog 28 #[.pointer (some ⟨w.heap.size, 0, none⟩)] wr fun e w' => e = .returned (.string sv) ∧ FrX (w.heap.size + 1) w.heap.size wr w') := by unfold Hid; rw [hsv]; exact pk_string HPk.out
      have HSv := Lib.hid hsv
      clear hlt hsv hk2
      go_wp2_with fail
      refine HC.out.mono ?_
      rintro e w2 ⟨rfl, hfx⟩
      have HF := Lib.hid (HBl.out.trans ((FrS.of_x (S := fun k => k = w.heap.size) hfx rfl).below (by omega) fun k e => by omega))
      clear hfx
      go_wp2_with fail
      refine bodyPost_ret (v := .string sv) (by simp [results, Tryd.results20, go_sem]) rfl ?_
      exact ⟨by rw [HSv.out], HF.out⟩
end Go.Proofs.YtenhaohooknkfaaDoor
