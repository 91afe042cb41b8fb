/- The walk of Print. -/
import Derived.Test.YtonmpealebggoaaDoorPrpChk
namespace Go.Proofs.YtonmpealebggoaaDoor
open Go.RowKit Pr
theorem checkE_rules {l : List Rl} (h : checkE l = 0) : (∀ r ∈ l, RlOk r) ∧ l.length ≤ 32 := by
  obtain ⟨h1, h2, h3⟩ := check_ok h
  exact ⟨rules_ok h2, h1⟩
set_option maxHeartbeats 4000000 in
theorem print_any (l : List Rl) (v : Value) (P : Nat → Prop) (w : World) (h : RlsV P w v l) (hT : Tabs w) :
    Calls Tryd.prog 9 #[v] w fun e w' => e = .returned (.tuple #[.string (Bs (if checkE l = 0 then printS l else [])), .int .i64 (checkE l)]) ∧ Below w.heap.size w w' := by
  have HC := Lib.hid (check_any l v P w h hT)
  have HP := Lib.hid (fun (h0 : checkE l = 0) W (hw : Below w.heap.size w W) => printed_any l v P W (h.later hw) (checkE_rules h0).1 (checkE_rules h0).2 (hT.later hw))
  obtain ⟨A, c, rfl⟩ := h.form
  clear h hT
  generalize l.length = n at *
  generalize printS l = PS at *
  generalize checkE l = E at *
  generalize hX : (if E = 0 then PS else []) = X at *
  by_cases h0 : E = 0
  · have u0 : (E != 0) = false := by simp; exact h0
    have HP2 := Lib.hid (HP.out h0)
    have HV := Lib.hid (hX.symm.trans (if_pos h0))
    have HV2 := Lib.hid h0
    clear h0 hX
    go_enter Tryd.func9, Tryd.ntmps9
    go_wp2_with fail
    refine HC.out.mono ?_; rintro e w2 ⟨rfl, hb2⟩
    have HP3 := Lib.hid (HP2.out w2 hb2)
    go_wp2_with fail
    refine HP3.out.mono ?_; rintro e w3 ⟨rfl, hb3⟩
    have HB3 := Lib.hid (hb2.trans (hb3.mono hb2.size))
    go_wp2_with fail
    go_ret2
    exact ⟨by rw [HV.out, HV2.out]; rfl, HB3.out⟩
  · have u0 : (E != 0) = true := by simp; exact h0
    have HV := Lib.hid (hX.symm.trans (if_neg h0))
    clear h0 hX
    go_enter Tryd.func9, Tryd.ntmps9
    go_wp2_with fail
    refine HC.out.mono ?_; rintro e w2 ⟨rfl, hb2⟩
    go_wp2_with fail
    go_ret2
    exact ⟨by rw [HV.out]; rfl, hb2⟩
end Go.Proofs.YtonmpealebggoaaDoor
