/- The law PrepressPrintParse: what is printed of rules is parsed as the same rules. -/
import Derived.Test.YtonmpealebggoaaDoorPrpRls
import Derived.Test.YtonmpealebggoaaDoorPrpSa4
import Derived.Test.YtonmpealebggoaaDoorPrpPrn
namespace Go.Proofs.YtonmpealebggoaaDoor
open Go.RowKit Pr
theorem bs_toList (l : Src) : (Bs l).data.toList = l := by simp
theorem bs_size (l : Src) : (Bs l).size = l.length := by simp [ByteArray.size]
set_option maxRecDepth 100000 in
set_option maxHeartbeats 4000000 in
theorem print_parse_law (l : List Rl) (v : Value) (P : Nat → Prop) (w : World) (h : RlsV P w v l) (hT : Tabs w ∧ ErrT w) :
    Calls Tryd.prog 3 #[v] w fun e w' => e = .returned (.bool true) ∧ Below w.heap.size w w' := by
  obtain ⟨A, c, rfl⟩ := h.form
  have HR := Lib.hid (rules_any w hT)
  have HTl : Hid (∀ W, Below w.heap.size w W → Tabs W ∧ ErrT W) := fun W hW => ⟨hT.1.later hW, hT.2.later hW⟩
  have HP := Lib.hid (fun W (hW : Below w.heap.size w W) => print_any l _ P W (h.later hW) (HTl.out W hW).1)
  have HC := Lib.hid (fun W (hW : Below w.heap.size w W) => check_any l _ P W (h.later hW) (HTl.out W hW).1)
  have HH := Lib.hid h
  clear h hT
  go_enter Tryd.func3, Tryd.ntmps3
  go_wp2_with fail
  refine HR.out.mono ?_
  rintro e w2 ⟨rfl, hb2⟩
  have HP2 := Lib.hid (HP.out w2 hb2)
  have HB2 := Lib.hid hb2
  clear hb2 HR HP
  generalize hce : checkE l = ce at *
  by_cases h0 : ce = 0
  · have u0 : (ce != 0) = false := by rw [bne_eq_false_iff_eq]; exact h0
    have hok := check_ok (hce.trans h0)
    have hpp := parse_print (rules_ok hok.2.1)
    have hX : (if ce = 0 then printS l else []) = printS l := if_pos h0
    rw [hX] at HP2
    have HPa := Lib.hid (fun W (hW : Below w.heap.size w W) => parse_any (Bs (printS l)) W (by rw [bs_size]; exact hok.2.2) (HTl.out W hW))
    rw [bs_toList, hpp] at HPa
    have HC0 := Lib.hid (hce.trans h0)
    clear hok hpp hX hce
    generalize Bs (printS l) = PS at *
    have HE0 := Lib.hid h0
    clear h0
    go_wp2_with fail
    refine HP2.out.mono ?_
    rintro e w3 ⟨rfl, hb3⟩
    have HB3 := Lib.hid (HB2.out.trans (hb3.mono HB2.out.size))
    have HPa3 := Lib.hid (HPa.out w3 HB3.out)
    clear hb3 HPa HP2 HC HB2
    go_wp2_with fail
    refine HPa3.out.mono ?_
    rintro e w4 ⟨hb4, hq⟩
    have HB4 := Lib.hid (HB3.out.trans (hb4.mono HB3.out.size))
    rcases hq with ⟨-, u, hu, rfl⟩ | ⟨hn, -⟩
    case inr => exact absurd HC0.out hn
    have HE := Lib.hid (eqr_any l _ u _ _ w4 (HH.out.later HB4.out) hu)
    obtain ⟨A2, c2, rfl⟩ := hu.form
    clear hb4 hu HPa3 HB3
    go_wp2_with fail
    refine HE.out.mono ?_
    rintro e w5 ⟨rfl, hb5⟩
    have HB5 := Lib.hid (HB4.out.trans (hb5.mono HB4.out.size))
    clear hb5
    go_wp2_with fail
    go_ret
    exact ⟨rfl, HB5.out⟩
  · have u0 : (ce != 0) = true := by rw [bne_iff_ne]; exact h0
    have hX : (if ce = 0 then printS l else []) = [] := if_neg h0
    rw [hX] at HP2
    have hE : Bs [] = ⟨#[]⟩ := rfl
    rw [hE] at HP2
    clear h0 hX hE
    go_wp2_with fail
    refine HP2.out.mono ?_
    rintro e w3 ⟨rfl, hb3⟩
    have HB3 := Lib.hid (HB2.out.trans (hb3.mono HB2.out.size))
    have HC3 := Lib.hid (HC.out w3 HB3.out)
    clear hb3 HC HP2 HB2
    go_wp2_with fail
    refine HC3.out.mono ?_
    rintro e w4 ⟨rfl, hb4⟩
    have HB4 := Lib.hid (HB3.out.trans (hb4.mono HB3.out.size))
    clear hb4
    have u1 : (ce == ce) = true := by simp
    go_wp2_with fail
    go_ret
    exact ⟨by first | rfl | simp, HB4.out⟩
end Go.Proofs.YtonmpealebggoaaDoor
