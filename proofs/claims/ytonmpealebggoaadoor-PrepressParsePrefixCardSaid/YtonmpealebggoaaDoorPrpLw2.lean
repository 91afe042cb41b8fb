/- The law PrepressParsePrefix: a text of rules that is cut off. -/
import Derived.Test.YtonmpealebggoaaDoorPrpLw1
import Derived.Test.YtonmpealebggoaaDoorPrpSpc
import Derived.Test.YtonmpealebggoaaDoorLaidC
import Derived.Test.YtonmpealebggoaaDoorWithin
namespace Go.Proofs.YtonmpealebggoaaDoor
open Go.RowKit Pr
set_option maxRecDepth 100000 in
set_option maxHeartbeats 4000000 in
theorem prefix_law (l : List Rl) (n : Int) (v : Value) (P : Nat → Prop) (w : World) (h : RlsV P w v l) (hT : Tabs w ∧ ErrT w) :
    Calls Tryd.prog 4 #[v, .int .i64 n] w fun e w' => e = .returned (.bool true) ∧ Below w.heap.size w w' := by
  obtain ⟨A, c, rfl⟩ := h.form
  have HR := Lib.hid (rules_any w hT)
  have HTl : Hid (∀ W, Below w.heap.size w W → Tabs W ∧ ErrT W) := fun W hW => ⟨hT.1.later hW, hT.2.later hW⟩
  have HP := Lib.hid (fun W (hW : Below w.heap.size w W) => print_any l _ P W (h.later hW) (HTl.out W hW).1)
  have HH := Lib.hid h
  have hcap := h.caps.2
  clear h hT
  go_enter Tryd.func4, Tryd.ntmps4
  go_wp2_with fail
  refine HR.out.mono ?_
  rintro e w2 ⟨rfl, hb2⟩
  have HP2 := Lib.hid (HP.out w2 hb2)
  have HB2 := Lib.hid hb2
  clear hb2 HR HP
  generalize hce : checkE l = ce at *
  by_cases h0 : ce = 0
  · have u0 : (ce != 0) = false := by rw [bne_eq_false_iff_eq]; exact h0
    have hok := check_ok (hce.trans h0)
    have HRo := Lib.hid (rules_ok hok.2.1)
    have HCe := Lib.hid (hce.trans h0)
    have hX : (if ce = 0 then printS l else []) = printS l := if_pos h0
    rw [hX] at HP2
    have hlen := hok.2.2
    clear hok hX hce h0
    have hsz := bs_size (printS l)
    go_wp2_with fail
    refine HP2.out.mono ?_
    rintro e w3 ⟨rfl, hb3⟩
    have HB3 := Lib.hid (HB2.out.trans (hb3.mono HB2.out.size))
    clear hb3 HP2 HB2
    have hw0 := wi_lo n 0 ((Bs (printS l)).size : Int) (by omega)
    have hw1 := wi_hi n 0 ((Bs (printS l)).size : Int) (by omega)
    have HWi := Lib.hid (within_any n 0 ((Bs (printS l)).size : Int) w3 (by omega) (by omega) (by omega))
    generalize wi n 0 ((Bs (printS l)).size : Int) = q at *
    obtain ⟨k, rfl⟩ := Int.eq_ofNat_of_zero_le hw0
    go_wp2_with fail
    refine HWi.out.mono ?_
    rintro e w4 ⟨rfl, rfl⟩
    have hk : k ≤ (printS l).length := by omega
    have hex : (Bs (printS l)).extract 0 k = Bs ((printS l).take k) := by
      apply ByteArray.ext
      simp
    have htl : ((printS l).take k).length = k := by rw [List.length_take]; omega
    have HPa := Lib.hid (fun W (hW : Below w.heap.size w W) => parse_any (Bs ((printS l).take k)) W (by rw [bs_size, htl]; omega) (HTl.out W hW))
    rw [bs_toList, ← hex] at HPa
    have HPl := Lib.hid (fun m hm => cut_parse HRo.out k (m := m) hm)
    have HPa3 := Lib.hid (HPa.out w3 HB3.out)
    have hesz : ((Bs (printS l)).extract 0 k).size = k := by rw [hex, bs_size, htl]
    have hed : ((Bs (printS l)).extract 0 k).data.toList = (printS l).take k := by rw [hex, bs_toList]
    have HCn := Lib.hid (fun W => strings_Count_one ((Bs (printS l)).extract 0 k) 59 W)
    rw [hed] at HCn
    clear HPa hex htl hed HWi HRo hw0 hw1 hlen hsz
    generalize (printS l).take k = t at *
    generalize hX : (Bs (printS l)).extract 0 k = X at *
    have HX := Lib.hid hX
    clear hX
    go_wp2_with fail
    rw [HX.out]
    refine HPa3.out.mono ?_
    rintro e w4 ⟨hb4, hq⟩
    have HB4 := Lib.hid (HB3.out.trans (hb4.mono HB3.out.size))
    clear hb4 HPa3 HB3
    cases hm : parseS t with
    | none =>
      rw [hm] at hq
      obtain ⟨a, ha, rfl⟩ := hq
      have hak : decide ((a : Int) ≤ (k : Int)) = true := by simp; omega
      clear HPl HCn hm
      go_wp2_with fail
      go_ret
      exact ⟨rfl, HB4.out⟩
    | some m =>
      rw [hm] at hq
      obtain ⟨hm1, hm2⟩ := HPl.out m hm
      rcases hq with ⟨-, u, hu, rfl⟩ | ⟨hn, -⟩
      case inr => exact absurd (by rw [hm1]; exact check_take HCe.out _) hn
      obtain ⟨A2, c2, rfl⟩ := hu.form
      have HU := Lib.hid hu
      have hml : m.length ≤ l.length := by have := congrArg List.length hm1; rw [List.length_take] at this; omega
      have HC4 := Lib.hid (HCn.out w4)
      have hcnt : Lib.countByte t 59 = m.length := hm2.symm
      rw [hcnt] at HC4
      have HM1 := Lib.hid hm1
      clear hu HPl HCn hm hcnt hm1 hm2
      go_wp2_with fail
      rw [HX.out]
      refine HC4.out.mono ?_
      rintro e w5 ⟨rfl, rfl⟩
      have HE : Hid (Calls Tryd.prog 12 #[.slice A2 m.length c2, .slice A m.length c, .func (.func 13) #[] #[]] w5 (TruePost w5)) := by
        have hr := rl_take HH.out hml
        rw [← HM1.out] at hr
        exact eqr_any m _ _ _ _ w5 HU.out (hr.later HB4.out)
      go_wp2_with fail
      rw [show (min (m.length : Int) (l.length : Int)).toNat = m.length by omega]
      refine HE.out.mono ?_
      rintro e w6 ⟨rfl, hb6⟩
      have HB6 := Lib.hid (HB4.out.trans (hb6.mono HB4.out.size))
      clear hb6
      go_wp2_with fail
      go_ret
      exact ⟨rfl, HB6.out⟩
  · have u0 : (ce != 0) = true := by rw [bne_iff_ne]; exact h0
    have hX : (if ce = 0 then printS l else []) = [] := if_neg h0
    rw [hX] at HP2
    have hE : Bs [] = ⟨#[]⟩ := rfl
    rw [hE] at HP2
    clear h0 hX hE
    go_wp2_with fail
    refine HP2.out.mono ?_
    rintro e w3 ⟨rfl, hb3⟩
    have HB3 := Lib.hid (HB2.out.trans (hb3.mono HB2.out.size))
    clear hb3 HP2 HB2
    go_wp2_with fail
    go_ret
    exact ⟨rfl, HB3.out⟩
end Go.Proofs.YtonmpealebggoaaDoor
