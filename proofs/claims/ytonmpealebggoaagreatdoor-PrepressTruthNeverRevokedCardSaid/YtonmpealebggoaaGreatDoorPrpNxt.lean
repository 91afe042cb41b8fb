/- The walk of next: the parser goes on to the next word. -/
import Derived.Test.YtonmpealebggoaaGreatDoorPrpCls
import Derived.IntWalk
import Derived.Lib.BufferOwn
namespace Go.Proofs.YtonmpealebggoaaGreatDoor
open Go.RowKit Pr
/-- Where a parser's word stands in the text, and what is behind it. -/
structure PsAt (src : Src) (a : Nat) (s : St) : Prop where
  le : a + s.1.length ≤ src.length
  wd : s.1 = (src.drop a).take s.1.length
  rs : s.2 = src.drop (a + s.1.length)
theorem skip_step {L : Src} {i : Nat} (hi : i < L.length) (h : wsB (L.getD i 0) = true) : skipW (L.drop (i + 1)) = skipW (L.drop i) := by
  have e : L.drop i = L.getD i 0 :: L.drop (i + 1) := by rw [List.drop_eq_getElem_cons hi, List.getD_eq_getElem?_getD, List.getElem?_eq_getElem hi]; rfl
  rw [e, skipW, if_pos h]
theorem skip_stop {L : Src} {i : Nat} (hi : i < L.length) (h : wsB (L.getD i 0) = false) : skipW (L.drop i) = L.getD i 0 :: L.drop (i + 1) := by
  have e : L.drop i = L.getD i 0 :: L.drop (i + 1) := by rw [List.drop_eq_getElem_cons hi, List.getD_eq_getElem?_getD, List.getElem?_eq_getElem hi]; rfl
  rw [e, skipW, if_neg (by rw [h]; simp)]
theorem run_step {L : Src} {c k : Nat} (hk : k < L.length) (h : goesOn c (L.getD k 0) = true) : Pr.runN c (L.drop k) = Pr.runN c (L.drop (k + 1)) + 1 := by
  rw [List.drop_eq_getElem_cons hk, Pr.runN, List.getD_eq_getElem?_getD, List.getElem?_eq_getElem hk] at *
  exact if_pos h
theorem run_stop {L : Src} {c k : Nat} (hk : k < L.length) (h : goesOn c (L.getD k 0) = false) : Pr.runN c (L.drop k) = 0 := by
  rw [List.drop_eq_getElem_cons hk, Pr.runN, List.getD_eq_getElem?_getD, List.getElem?_eq_getElem hk] at *
  exact if_neg (by simpa using h)
theorem word_end {L : Src} {i k : Nat} {x : UInt8} (hx : L.drop i = x :: L.drop (i + 1)) (h1 : i + 1 ≤ k) (h2 : k ≤ L.length) (hr : 0 < cls x → Pr.runN (cls x) (L.drop (i + 1)) = k - (i + 1)) (h0 : cls x = 0 → k = i + 1) :
    wordF (x :: L.drop (i + 1)) = ((L.drop i).take (k - i), L.drop k) ∧ PsAt L i ((L.drop i).take (k - i), L.drop k) := by
  have hl : ((L.drop i).take (k - i)).length = k - i := by rw [List.length_take, List.length_drop]; omega
  constructor
  · show (if cls x = 0 then ([x], L.drop (i + 1)) else (x :: (L.drop (i + 1)).take (Pr.runN (cls x) (L.drop (i + 1))), (L.drop (i + 1)).drop (Pr.runN (cls x) (L.drop (i + 1))))) = _
    by_cases hc : cls x = 0
    · rw [if_pos hc, h0 hc, hx, show i + 1 - i = 1 by omega]; rfl
    · rw [if_neg hc, hr (by omega), hx, show k - i = (k - (i + 1)) + 1 by omega, List.take_succ_cons, List.drop_drop, show i + 1 + (k - (i + 1)) = k by omega]
  · exact ⟨by rw [hl]; omega, by rw [hl], by rw [hl, show i + (k - i) = k by omega]⟩
theorem extract_bs (S : ByteArray) (i k : Nat) : S.extract i k = Bs ((S.data.toList.drop i).take (k - i)) := by
  apply ByteArray.ext
  apply Array.ext'
  simp [ByteArray.data_extract]
set_option maxRecDepth 100000 in
set_option maxHeartbeats 4000000 in
theorem next_any (S : ByteArray) (K a : Nat) (s : St) (w : World) (h : Row w K [.string S, .int .i64 (a : Int), .string (Bs s.1)]) (hp : PsAt S.data.toList a s) (hs : S.size ≤ 4096) :
    Calls Tryz.prog 25 #[.pointer (some ⟨K, 0, none⟩)] w fun e w' => e = .returned (.tuple #[]) ∧ (∃ a' : Nat, PsAt S.data.toList a' (lexW s.2) ∧ Row w' K [.string S, .int .i64 (a' : Int), .string (Bs (lexW s.2).1)]) ∧ w.grownBy w' (some K) := by
  have hlen : S.data.toList.length = S.size := by simp
  have HL := Lib.hid hlen
  have HBy : Hid (∀ j (h : j < S.size), S.data.toList.getD j 0 = S[j]'h) := fun j h => by
    have h2 : j < S.data.toList.length := by omega
    rw [List.getD_eq_getElem?_getD, List.getElem?_eq_getElem h2]; rfl
  have hle := hp.le
  have HRs := Lib.hid hp.rs
  have HEx := Lib.hid (fun i k => extract_bs S i k)
  have HWe := Lib.hid (fun i k x => @word_end S.data.toList i k x)
  obtain ⟨wd, rest⟩ := s
  dsimp only at *
  have q0 := h.at_ (i := 0) (by simp)
  have q1 := h.at_ (i := 1) (by simp)
  have q2 := h.at_ (i := 2) (by simp)
  have f1 := h.free 1 (by simp)
  have f2 := h.free 2 (by simp)
  have l0 := h.lt
  simp only [List.getElem_cons_zero, List.getElem_cons_succ] at q0 q1 q2
  have HR := Lib.hid h
  rw [hlen] at hle
  clear h hp hlen
  generalize S.data.toList = L at *
  have hwl : (Bs wd).size = wd.length := by simp [ByteArray.size]
  generalize hwn : wd.length = wn at *
  have HWn := Lib.hid hwn
  clear hwn
  go_enter Tryz.func25, Tryz.ntmps25
  go_wp2_with fail
  go_quiet (fail)
  go_wp2_with fail
  have HSk0 : Hid (skipW (L.drop (a + wn)) = skipW rest) := by unfold Hid; rw [HRs.out]
  go_loopw [2] (fun v2 wr => ∃ i : Nat, i ≤ S.size ∧ v2 = .int .i64 i ∧ skipW (L.drop i) = skipW rest ∧ wr = w.drewN nq) (fun v2 _ => S.size - (intOf v2).toNat)
  case atStart => exact ⟨a + wn, hle, valInt (by rw [IntKind.wrap_i64]; omega), HSk0.out, rfl⟩
  case round =>
    obtain ⟨i, hi, rfl, hsk, rfl⟩ := hrel
    have HSk := Lib.hid hsk
    clear hsk HSk0
    by_cases hlt : i < S.size
    · have t0 : decide ((i : Int) < (S.size : Int)) = true := by simp; omega
      have HX := Lib.hid (HBy.out i hlt)
      generalize hx : S[i]'hlt = x at *
      have hx8 := x.toNat_lt
      by_cases x1 : x = 32
      · have u1 : (((x.toNat : Nat) : Int) == 32) = true := by rw [x1]; rfl
        have HV := Lib.hid (show skipW (L.drop (i + 1)) = skipW rest from (skip_step (by rw [HL.out]; exact hlt) (by rw [HX.out, x1]; rfl)).trans HSk.out)
        clear x1
        go_wp2_with fail
        go_roundw
        case rel => exact ⟨i + 1, by omega, by go_num, HV.out, trivial⟩
        case measure => simp [intOf]; omega
      · have u1 : (((x.toNat : Nat) : Int) == 32) = false := by rw [beq_eq_false_iff_ne]; intro e; exact x1 (UInt8.toNat_inj.1 (show x.toNat = (32 : UInt8).toNat from by have : (32 : UInt8).toNat = 32 := rfl; omega))
        by_cases x2 : x = 10
        · have u2 : (((x.toNat : Nat) : Int) == 10) = true := by rw [x2]; rfl
          have HV := Lib.hid (show skipW (L.drop (i + 1)) = skipW rest from (skip_step (by rw [HL.out]; exact hlt) (by rw [HX.out, x2]; rfl)).trans HSk.out)
          clear x1 x2
          go_wp2_with fail
          go_roundw
          case rel => exact ⟨i + 1, by omega, by go_num, HV.out, trivial⟩
          case measure => simp [intOf]; omega
        · have u2 : (((x.toNat : Nat) : Int) == 10) = false := by rw [beq_eq_false_iff_ne]; intro e; exact x2 (UInt8.toNat_inj.1 (show x.toNat = (10 : UInt8).toNat from by have : (10 : UInt8).toNat = 10 := rfl; omega))
          have u3 : ((i : Int) == (S.size : Int)) = false := by rw [beq_eq_false_iff_ne]; omega
          have HV := Lib.hid (show skipW rest = x :: L.drop (i + 1) from HSk.out.symm.trans ((skip_stop (by rw [HL.out]; exact hlt) (by rw [HX.out]; simp [wsB, x1, x2])).trans (by rw [HX.out])))
          have HCl := Lib.hid (fun W => class_any x W)
          clear x1 x2
          have HR1 := Lib.hid ((HR.out.drewN nq).put (k := 1) (by simp) (.int .i64 (i : Int)))
          have HG1 := Lib.hid (Lib.grownBy_setB (show w.grownBy (w.drewN nq) (some K) from ⟨rfl, rfl, rfl, Nat.le_refl _, fun _ _ _ => rfl⟩) 1 (.int .i64 (i : Int)))
          have HRn := Lib.hid (fun k (hk : k < S.size) => (⟨run_step (c := cls x) (by rw [HL.out]; exact hk), run_stop (c := cls x) (by rw [HL.out]; exact hk)⟩ : _ ∧ _))
          go_wp2_with fail
          refine (HCl.out _).mono ?_; rintro e w5 ⟨rfl, rfl⟩
          generalize hw1 : (w.drewN nq).setCell ⟨K, 1, none⟩ (Value.int .i64 (i : Int)) = w1 at *
          have r0 := HR1.out.at_ (i := 0) (by simp)
          have r2 := HR1.out.at_ (i := 2) (by simp)
          have g2 := HR1.out.free 2 (by simp)
          have l1 := HR1.out.lt
          simp only [List.getElem_cons_zero, List.getElem_cons_succ, List.set_cons_succ, List.set_cons_zero] at r0 r2
          clear hw1 q0 q1 q2 f1 f2
          have HDx := Lib.hid (show L.drop i = x :: L.drop (i + 1) by rw [List.drop_eq_getElem_cons (by rw [HL.out]; exact hlt), ← HX.out, List.getD_eq_getElem?_getD, List.getElem?_eq_getElem (by rw [HL.out]; exact hlt)]; rfl)
          have HW := Lib.hid (fun k h1 h2 hr h0 => HWe.out i k x HDx.out h1 (by rw [HL.out]; exact h2) hr h0)
          generalize cls x = c at *
          go_wp2_with fail
          go_loopw [3] (fun v3 wr => ∃ k : Nat, i + 1 ≤ k ∧ k ≤ S.size ∧ v3 = .int .i64 k ∧ (0 < c → Pr.runN c (L.drop (i + 1)) = (k - (i + 1)) + Pr.runN c (L.drop k)) ∧ (c = 0 → k = i + 1) ∧ wr = w1) (fun v3 _ => S.size - (intOf v3).toNat)
          case atStart => exact ⟨i + 1, Nat.le_refl _, hlt, by go_num, by simp, fun _ => rfl, rfl⟩
          case round =>
            obtain ⟨k, hk1, hk2, rfl, hk3, hk4, rfl⟩ := hrel
            by_cases c0 : 0 < c
            · have v0 : decide (((c : Nat) : Int) > 0) = true := by simp; omega
              have v0' : decide (0 < c) = true := by simp; omega
              by_cases klt : k < S.size
              · have v1 : decide ((k : Int) < (S.size : Int)) = true := by simp; omega
                have HY := Lib.hid (HBy.out k klt)
                generalize hy : S[k]'klt = y at *
                have HCy := Lib.hid (fun W => class_any y W)
                have hy8 := y.toNat_lt
                by_cases e1 : cls y = c
                · have v2 : (((cls y : Nat) : Int) == (c : Int)) = true := by rw [beq_iff_eq]; omega
                  have hgo : goesOn c (L.getD k 0) = true := by rw [HY.out]; unfold goesOn; simp [e1]
                  clear e1
                  have HN := Lib.hid (show Pr.runN c (L.drop (i + 1)) = (k + 1 - (i + 1)) + Pr.runN c (L.drop (k + 1)) by rw [hk3 c0, (HRn.out k klt).1 hgo]; omega)
                  clear hk3 hk4 hgo
                  go_wp2_with fail
                  refine (HCy.out _).mono ?_; rintro e w6 ⟨rfl, rfl⟩
                  go_wp2_with fail
                  go_roundw
                  case rel => exact ⟨k + 1, by omega, by omega, by go_num, fun _ => HN.out, fun h => absurd h (by omega), trivial⟩
                  case measure => simp [intOf]; omega
                · have v2 : (((cls y : Nat) : Int) == (c : Int)) = false := by rw [beq_eq_false_iff_ne]; omega
                  by_cases e2 : c = 1
                  · have v3 : ((c : Int) == 1) = true := by rw [beq_iff_eq]; omega
                    by_cases e3 : y = 45
                    · have v4 : (((y.toNat : Nat) : Int) == 45) = true := by rw [e3]; rfl
                      have hgo : goesOn c (L.getD k 0) = true := by rw [HY.out]; unfold goesOn; simp [e2, e3]
                      clear e1 e2 e3
                      have HN := Lib.hid (show Pr.runN c (L.drop (i + 1)) = (k + 1 - (i + 1)) + Pr.runN c (L.drop (k + 1)) by rw [hk3 c0, (HRn.out k klt).1 hgo]; omega)
                      clear hk3 hk4 hgo
                      go_wp2_with fail
                      refine (HCy.out _).mono ?_; rintro e w6 ⟨rfl, rfl⟩
                      go_wp2_with fail
                      go_roundw
                      case rel => exact ⟨k + 1, by omega, by omega, by go_num, fun _ => HN.out, fun h => absurd h (by omega), trivial⟩
                      case measure => simp [intOf]; omega
                    · have v4 : (((y.toNat : Nat) : Int) == 45) = false := by rw [beq_eq_false_iff_ne]; intro e; exact e3 (UInt8.toNat_inj.1 (show y.toNat = (45 : UInt8).toNat from by have : (45 : UInt8).toNat = 45 := rfl; omega))
                      have hgo : goesOn c (L.getD k 0) = false := by rw [HY.out]; unfold goesOn; simp [e1, e3]
                      clear e1 e2 e3
                      have hr : 0 < c → Pr.runN c (L.drop (i + 1)) = k - (i + 1) := fun _ => by rw [hk3 c0, (HRn.out k klt).2 hgo]; omega
                      have HWk := Lib.hid (HW.out k hk1 hk2 hr hk4)
                      have HLx := Lib.hid (show lexW rest = ((L.drop i).take (k - i), L.drop k) by unfold lexW; rw [HV.out]; exact HWk.out.1)
                      have HR2 := Lib.hid (HR1.out.put (k := 2) (by simp) (.string (S.extract i k)))
                      have HG2 := Lib.hid (Lib.grownBy_setB HG1.out 2 (.string (S.extract i k)))
                      have hik : i ≤ k := by omega
                      clear hr hk3 hk4
                      go_wp2_with fail
                      refine (HCy.out _).mono ?_; rintro e w6 ⟨rfl, rfl⟩
                      go_wp2_with fail
                      go_end0
                      exact ⟨rfl, ⟨i, by rw [HLx.out]; exact HWk.out.2, by rw [HLx.out, ← HEx.out i k]; exact HR2.out⟩, HG2.out⟩
                  · have v3 : ((c : Int) == 1) = false := by rw [beq_eq_false_iff_ne]; omega
                    have hgo : goesOn c (L.getD k 0) = false := by rw [HY.out]; unfold goesOn; simp [e1, e2]
                    clear e1 e2
                    have hr : 0 < c → Pr.runN c (L.drop (i + 1)) = k - (i + 1) := fun _ => by rw [hk3 c0, (HRn.out k klt).2 hgo]; omega
                    have HWk := Lib.hid (HW.out k hk1 hk2 hr hk4)
                    have HLx := Lib.hid (show lexW rest = ((L.drop i).take (k - i), L.drop k) by unfold lexW; rw [HV.out]; exact HWk.out.1)
                    have HR2 := Lib.hid (HR1.out.put (k := 2) (by simp) (.string (S.extract i k)))
                    have HG2 := Lib.hid (Lib.grownBy_setB HG1.out 2 (.string (S.extract i k)))
                    have hik : i ≤ k := by omega
                    clear hr hk3 hk4
                    go_wp2_with fail
                    refine (HCy.out _).mono ?_; rintro e w6 ⟨rfl, rfl⟩
                    go_wp2_with fail
                    go_end0
                    exact ⟨rfl, ⟨i, by rw [HLx.out]; exact HWk.out.2, by rw [HLx.out, ← HEx.out i k]; exact HR2.out⟩, HG2.out⟩
              · obtain rfl : k = S.size := by omega
                have v1 : decide ((S.size : Int) < (S.size : Int)) = false := by simp
                have hr : 0 < c → Pr.runN c (L.drop (i + 1)) = S.size - (i + 1) := fun h => by rw [hk3 h, List.drop_eq_nil_iff.2 (by rw [HL.out]; exact Nat.le_refl _)]; rfl
                have HWk := Lib.hid (HW.out S.size hk1 hk2 hr hk4)
                have HLx := Lib.hid (show lexW rest = ((L.drop i).take (S.size - i), L.drop S.size) by unfold lexW; rw [HV.out]; exact HWk.out.1)
                have HR2 := Lib.hid (HR1.out.put (k := 2) (by simp) (.string (S.extract i S.size)))
                have HG2 := Lib.hid (Lib.grownBy_setB HG1.out 2 (.string (S.extract i S.size)))
                have hik : i ≤ S.size := by omega
                clear hr hk3 hk4
                go_wp2_with fail
                go_end0
                exact ⟨rfl, ⟨i, by rw [HLx.out]; exact HWk.out.2, by rw [HLx.out, ← HEx.out i S.size]; exact HR2.out⟩, HG2.out⟩
            · have v0 : decide (((c : Nat) : Int) > 0) = false := by simp; omega
              have v0' : decide (0 < c) = false := by simp; omega
              have hr : 0 < c → Pr.runN c (L.drop (i + 1)) = k - (i + 1) := fun h => absurd h c0
              have HWk := Lib.hid (HW.out k hk1 hk2 hr hk4)
              have HLx := Lib.hid (show lexW rest = ((L.drop i).take (k - i), L.drop k) by unfold lexW; rw [HV.out]; exact HWk.out.1)
              have HR2 := Lib.hid (HR1.out.put (k := 2) (by simp) (.string (S.extract i k)))
              have HG2 := Lib.hid (Lib.grownBy_setB HG1.out 2 (.string (S.extract i k)))
              have hik : i ≤ k := by omega
              clear hr hk3 hk4
              go_wp2_with fail
              go_end0
              exact ⟨rfl, ⟨i, by rw [HLx.out]; exact HWk.out.2, by rw [HLx.out, ← HEx.out i k]; exact HR2.out⟩, HG2.out⟩
    · have t0 : decide ((i : Int) < (S.size : Int)) = false := by simp; omega
      obtain rfl : i = S.size := by omega
      have u3 : (((S.size : Nat) : Int) == (S.size : Int)) = true := by simp
      have HV := Lib.hid (show lexW rest = ([], []) by unfold lexW; rw [← HSk.out, List.drop_eq_nil_iff.2 (by rw [HL.out]; exact Nat.le_refl _)]; rfl)
      have HR2 := Lib.hid (((HR.out.drewN nq).put (k := 1) (by simp) (.int .i64 (S.size : Int))).put (k := 2) (by simp) (.string ⟨#[]⟩))
      have HG2 := Lib.hid (Lib.grownBy_setB (Lib.grownBy_setB (show w.grownBy (w.drewN nq) (some K) from ⟨rfl, rfl, rfl, Nat.le_refl _, fun _ _ _ => rfl⟩) 1 (.int .i64 (S.size : Int))) 2 (.string ⟨#[]⟩))
      go_wp2_with fail
      refine bodyPost_ret (results_none rfl _ _ _) rfl ?_
      exact ⟨rfl, ⟨S.size, by rw [HV.out]; exact ⟨by rw [HL.out]; exact Nat.le_refl _, rfl, by show ([] : Src) = L.drop (S.size + 0); rw [Nat.add_zero, List.drop_eq_nil_iff.2 (by rw [HL.out]; exact Nat.le_refl _)]⟩, by rw [HV.out]; exact HR2.out⟩, HG2.out⟩
end Go.Proofs.YtonmpealebggoaaGreatDoor
