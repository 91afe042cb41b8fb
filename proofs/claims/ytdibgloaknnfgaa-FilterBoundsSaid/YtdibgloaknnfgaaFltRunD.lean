/- The walk of runs.decode. -/
import Derived.Test.YtdibgloaknnfgaaFltRunE
import Derived.Test.YtdibgloaknnfgaaLaidRep
namespace Go.Proofs.Ytdibgloaknnfgaa
open Go.RowKit
theorem bx_len {B b : Nat} {l : List UInt8} {w : World} (h : Bx B b l w) :
    Calls Try.prog 35 #[.pointer (some ⟨b, 0, none⟩)] w fun e w' => e = .returned (.int .i64 (l.length : Nat)) ∧ w = w' := by
  refine (Builder_Len B b _ w h).mono ?_
  rintro e w' ⟨rfl, rfl⟩
  rw [Lib.byteCells_length]
  exact ⟨rfl, rfl⟩
theorem bx_new2 (w : World) (v : Obj) : Bx w.heap.size (w.heap.size + 1) [] ((w.alloc v).alloc (.cells #[.pointer none, .slice none 0 0] 66)) := bd_new w v
theorem bx_below {B b : Nat} {l : List UInt8} {w w' : World} (h : Bx B b l w) (hb : Below w.heap.size w w') : Bx B b l w' := by
  rcases h with h | h
  · obtain ⟨hB, v, hbk, hown, hne⟩ := h
    exact .inl ⟨hB, v, (hb.block _ (Lib.BuilderAt.lt ⟨hB, v, hbk, hown, hne⟩)).trans hbk, own_below hown hb, hne⟩
  · obtain ⟨hB, v, hbk, hown, hne⟩ := h
    exact .inr ⟨hB, v, (hb.block _ (Lib.BuilderAt.lt ⟨hB, v, hbk, hown, hne⟩)).trans hbk, own_below hown hb, hne⟩
theorem repL (x : UInt8) : ∀ k, Lib.repeatL [x] k = List.replicate k x
  | 0 => rfl
  | k + 1 => by rw [Lib.repeatL, repL x k, List.replicate_succ]; rfl
set_option maxRecDepth 100000 in
set_option maxHeartbeats 4000000 in
theorem runs_dec (s : ByteArray) (w : World) (hs : s.size ≤ 1000000) :
    Calls Try.prog 31 #[.agg #[], .string s] w (UngPost w (decR s.data.toList [])) := by
  have HN := Lib.hid (bx_new2 w (.cells #[] 43))
  have HB0 := Lib.hid (((Below.refl w.heap.size w).alloc (Nat.le_refl _) (.cells #[] 43)).alloc (by simp) (.cells #[.pointer none, .slice none 0 0] 66))
  have hlen : s.data.toList.length = s.size := by simp
  have HBy : Hid (∀ j (h : j < s.size), s.data.toList.drop j = s[j]'h :: s.data.toList.drop (j + 1)) := fun j h => List.drop_eq_getElem_cons (by omega)
  have HEx : Hid (∀ i k, i + k ≤ s.size → (s.extract i (i + k)).data.toList = (s.data.toList.drop i).take k) := fun i k h => by rw [Lib.extract_data, Nat.add_sub_cancel_left]
  have HP : Hid (∀ w', Below w.heap.size w w' → ∀ r, r = decR s.data.toList [] → UngPost w (decR s.data.toList []) (.returned (.tuple #[.string ⟨r.1.toArray⟩, .int .i64 r.2])) w') := fun w' hb r h => by rw [h]; exact ⟨rfl, hb⟩
  have HS : Hid (decR (s.data.toList.drop 0) [] = decR s.data.toList []) := rfl
  have HL := Lib.hid hlen
  clear hlen
  generalize hPo : UngPost w (decR s.data.toList []) = Post at *
  generalize hE : decR s.data.toList [] = E at *
  clear hE hPo
  generalize s.data.toList = L at *
  go_enter Try.func31, Try.ntmps31
  go_wp2
  go_loopw [7, 8] (fun v7 _ wr => ∃ (i : Nat) (acc : List UInt8), i ≤ s.size ∧ v7 = .int .i64 i ∧ acc.length ≤ 65536 ∧ decR (L.drop i) acc = E ∧ Bx w.heap.size (w.heap.size + 1) acc wr ∧ Below w.heap.size w wr) (fun v7 _ _ => s.size - (intOf v7).toNat)
  case atStart => exact ⟨0, [], Nat.zero_le _, rfl, by simp, HS.out, HN.out, HB0.out⟩
  case round =>
    obtain ⟨i, acc, hi, rfl, hal, he, hbd, hb⟩ := hrel
    have HBd := Lib.hid hbd
    have HB := Lib.hid hb
    have HE := Lib.hid he
    clear hbd hb he HN HB0 HS
    by_cases hlt : i < s.size
    · have HD := Lib.hid (HBy.out i hlt)
      have g0 : decide ((i : Int) < (s.size : Int)) = true := by simp; omega
      have hc8 := (s[i]'hlt).toNat_lt
      by_cases c1 : (s[i]'hlt).toNat = 128
      · have g1 : (((s[i]'hlt).toNat : Int) == 128) = true := by rw [beq_iff_eq]; omega
        have HC : Hid (s[i]'hlt = 128) := UInt8.toNat_inj.1 c1
        go_wp2_with fail
        exact HP.out _ HB.out ([], 5) (by rw [← HE.out, HD.out, decR_cons, if_pos HC.out])
      · have g1 : (((s[i]'hlt).toNat : Int) == 128) = false := by rw [beq_eq_false_iff_ne]; omega
        have HC : Hid (¬ s[i]'hlt = 128) := fun e => c1 (by rw [e]; rfl)
        clear c1
        by_cases c2 : (s[i]'hlt).toNat < 128
        · have g2 : decide (((s[i]'hlt).toNat : Int) < 128) = true := by simp; omega
          by_cases c3 : i + 1 + (s[i]'hlt).toNat + 1 > s.size
          · have g3 : decide ((i : Int) + 1 + ((s[i]'hlt).toNat : Int) + 1 > (s.size : Int)) = true := by simp; omega
            have HR : Hid (E = ([], 12)) := by unfold Hid; rw [← HE.out, HD.out, decR_cons, if_neg HC.out, if_pos c2, if_pos (by rw [List.length_drop, HL.out]; omega)]
            go_wp2_with fail
            exact HP.out _ HB.out ([], 12) HR.out.symm
          · have g3 : decide ((i : Int) + 1 + ((s[i]'hlt).toNat : Int) + 1 > (s.size : Int)) = false := by simp; omega
            have HX := Lib.hid (HEx.out (i + 1) ((s[i]'hlt).toNat + 1) (by omega))
            have HR : Hid (E = if 65536 < acc.length + ((s[i]'hlt).toNat + 1) then ([], 2) else decR (L.drop (i + 1 + ((s[i]'hlt).toNat + 1))) (acc ++ (L.drop (i + 1)).take ((s[i]'hlt).toNat + 1))) := by
              unfold Hid; rw [← HE.out, HD.out, decR_cons, if_neg HC.out, if_pos c2, if_neg (by rw [List.length_drop, HL.out]; omega), List.drop_drop]
            have hl2 : (acc ++ (s.extract (i + 1) (i + 1 + ((s[i]'hlt).toNat + 1))).data.toList).length = acc.length + ((s[i]'hlt).toNat + 1) := by
              rw [HX.out, List.length_append, List.length_take, List.length_drop, HL.out]; omega
            have HL2 := Lib.hid hl2
            clear hl2
            have HSz : Hid (acc.length + (s.extract (i + 1) (i + 1 + (s[i]'hlt).toNat + 1)).size ≤ 10000000) := by unfold Hid; rw [ByteArray.size_extract]; omega
            go_wp2_with fail
            ((with_reducible refine (bx_write HBd.out _ HSz.out HB.out.size).mono ?_); rintro e w2 ⟨rfl, hbd2, hb2⟩)
            have HBd2 := Lib.hid hbd2
            have HB2 := Lib.hid (HB.out.trans hb2)
            clear hbd2 hb2 HBd HB
            generalize hA : acc ++ (s.extract (i + 1) (i + 1 + (s[i]'hlt).toNat + 1)).data.toList = A at *
            have HA := Lib.hid hA
            have hl3 : A.length = acc.length + ((s[i]'hlt).toNat + 1) := HL2.out
            have HL3 := Lib.hid hl3
            have hl4 : A.length ≤ 70000 := by omega
            clear hA hl3
            go_wp2_with fail
            ((with_reducible refine (bx_len HBd2.out).mono ?_); rintro e w3 ⟨rfl, rfl⟩)
            by_cases hbig : 65536 < A.length
            · have g5 : decide ((A.length : Int) > 65536) = true := by simp; omega
              have HR2 : Hid (E = ([], 2)) := by rw [HR.out, if_pos (by rw [← HL3.out]; exact hbig)]; rfl
              go_wp2_with fail
              exact HP.out _ HB2.out ([], 2) HR2.out.symm
            · have g5 : decide ((A.length : Int) > 65536) = false := by simp; omega
              have HR2 : Hid (decR (L.drop (i + 1 + ((s[i]'hlt).toNat + 1))) A = E) := by
                unfold Hid; rw [HR.out, if_neg (by rw [← HL3.out]; exact hbig), ← HX.out, ← HA.out]; rfl
              go_wp2_with fail
              go_roundw
              case rel => exact ⟨i + 1 + ((s[i]'hlt).toNat + 1), A, by omega, by go_num, by omega, HR2.out, HBd2.out, HB2.out⟩
              case measure => simp [intOf]; omega
        · have g2 : decide (((s[i]'hlt).toNat : Int) < 128) = false := by simp; omega
          by_cases c3 : i + 1 = s.size
          · have g3 : (((i : Int) + 1) == (s.size : Int)) = true := by rw [beq_iff_eq]; omega
            have HR : Hid (E = ([], 12)) := by
              unfold Hid; rw [← HE.out, HD.out, decR_cons, if_neg HC.out, if_neg c2, show L.drop (i + 1) = [] by rw [List.drop_eq_nil_iff, HL.out]; omega]
            go_wp2_with fail
            exact HP.out _ HB.out ([], 12) HR.out.symm
          · have g3 : (((i : Int) + 1) == (s.size : Int)) = false := by rw [beq_eq_false_iff_ne]; omega
            have HD2 := Lib.hid (HBy.out (i + 1) (by omega))
            generalize hx : s[i + 1]'(by omega) = x at *
            have HX : Hid ((s.extract (i + 1) (i + 1 + 1)).data.toList = [x]) := by rw [HEx.out (i + 1) 1 (by omega), HD2.out]; rfl
            clear hx
            generalize hk : 257 - (s[i]'hlt).toNat = k at *
            have HK : Hid ((257 : Int) - ((s[i]'hlt).toNat : Int) = (k : Int)) := by unfold Hid; omega
            have hk1 : 2 ≤ k := by omega
            have hk2 : k ≤ 129 := by omega
            have HR : Hid (E = if 65536 < acc.length + k then ([], 2) else decR (L.drop (i + 1 + 1)) (acc ++ List.replicate k x)) := by
              unfold Hid; rw [← HE.out, HD.out, decR_cons, if_neg HC.out, if_neg c2, HD2.out, hk]
            have HRp : Hid (∀ W, Calls Try.prog 34 #[.string (s.extract (i + 1) (i + 1 + 1)), .int .i64 ((257 : Int) - ((s[i]'hlt).toNat : Int))] W fun e w' => e = .returned (.string ⟨Array.replicate k x⟩) ∧ Below W.heap.size W w') := fun W => by
              rw [HK.out]
              have hz : (s.extract (i + 1) (i + 1 + 1)).size = 1 := by rw [ByteArray.size_extract]; have := hlt; omega
              have := strings_Repeat (s.extract (i + 1) (i + 1 + 1)) k W (by omega) (by rw [hz]; omega)
              rwa [HX.out, repL, List.toArray_replicate] at this
            have HSz : Hid (acc.length + (⟨Array.replicate k x⟩ : ByteArray).size ≤ 10000000) := by
              unfold Hid; show acc.length + (Array.replicate k x).size ≤ _; simp; omega
            have hla : (acc ++ List.replicate k x).length = acc.length + k := by simp
            clear hk
            go_wp2_with fail
            ((with_reducible refine (HRp.out _).mono ?_); rintro e w2 ⟨rfl, hb2⟩)
            have HBd1 := Lib.hid (bx_below HBd.out hb2)
            have HB1 := Lib.hid (HB.out.trans (hb2.mono HB.out.size))
            clear hb2 HBd HB HRp
            go_wp2_with fail
            ((with_reducible refine (bx_write HBd1.out _ HSz.out HB1.out.size).mono ?_); rintro e w3 ⟨rfl, hbd2, hb2⟩)
            have HBd2 := Lib.hid hbd2
            have HB2 := Lib.hid (HB1.out.trans hb2)
            clear hbd2 hb2 HBd1 HB1
            generalize hA : acc ++ (⟨Array.replicate k x⟩ : ByteArray).data.toList = A at *
            have hA2 : acc ++ List.replicate k x = A := by rw [← hA]; simp
            have HA := Lib.hid hA2
            have hl3 : A.length = acc.length + k := by rw [← hA2]; exact hla
            have HL3 := Lib.hid hl3
            have hl4 : A.length ≤ 70000 := by omega
            clear hA hA2 hl3 hla
            go_wp2_with fail
            ((with_reducible refine (bx_len HBd2.out).mono ?_); rintro e w4 ⟨rfl, rfl⟩)
            by_cases hbig : 65536 < A.length
            · have g5 : decide ((A.length : Int) > 65536) = true := by simp; omega
              have HR2 : Hid (E = ([], 2)) := by rw [HR.out, if_pos (by rw [← HL3.out]; exact hbig)]; rfl
              go_wp2_with fail
              exact HP.out _ HB2.out ([], 2) HR2.out.symm
            · have g5 : decide ((A.length : Int) > 65536) = false := by simp; omega
              have HR2 : Hid (decR (L.drop (i + 1 + 1)) A = E) := by
                unfold Hid; rw [HR.out, if_neg (by rw [← HL3.out]; exact hbig), HA.out]
              go_wp2_with fail
              go_roundw
              case rel => exact ⟨i + 1 + 1, A, by omega, by go_num, by omega, HR2.out, HBd2.out, HB2.out⟩
              case measure => simp [intOf]; omega
    · have g0 : decide ((i : Int) < (s.size : Int)) = false := by simp; omega
      have HR : Hid (E = (acc, 0)) := by unfold Hid; rw [← HE.out, show L.drop i = [] by rw [List.drop_eq_nil_iff, HL.out]; omega, decR_nil]
      go_wp2_with fail
      ((with_reducible refine (bx_string HBd.out HB.out.size).mono ?_); rintro e w2 ⟨rfl, hb2⟩)
      have HB2 := Lib.hid (HB.out.trans hb2)
      clear hb2
      go_wp2_with fail
      exact HP.out _ HB2.out (acc, 0) HR.out.symm
end Go.Proofs.Ytdibgloaknnfgaa
