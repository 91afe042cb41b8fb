/- The law PrepressSpacesAndParentheses: more spaces, line feeds and parentheses. -/
import Derived.Test.YtonmpealebggoaaDoorPrpLw1
import Derived.Test.YtonmpealebggoaaDoorPrpSpc
import Derived.Test.YtonmpealebggoaaDoorLaidC
import Derived.Test.YtonmpealebggoaaDoorWithin
namespace Go.Proofs.YtonmpealebggoaaDoor
open Go.RowKit Pr
theorem mid_len (m : Nat) : ∀ l : List Rl, (l.flatMap (midS m)).length = (printS l).length + l.length * (3 * m)
  | [] => by simp [printS]
  | r :: l => by
    have h1 := mid_len m l
    have h2 : (midS m r).length = (lineS r).length + 3 * m := by
      simp only [midS, lineS, preS, opn, List.length_append, Lib.repeatL_length, List.length_cons, List.length_nil]
      omega
    simp only [printS, List.flatMap_cons, List.length_append, List.length_cons] at h1 ⊢
    rw [Nat.succ_mul]
    omega
set_option maxRecDepth 100000 in
set_option maxHeartbeats 4000000 in
theorem spaces_law (l : List Rl) (n : Int) (v : Value) (P : Nat → Prop) (w : World) (h : RlsV P w v l) (hT : Tabs w ∧ ErrT w) :
    Calls Tryd.prog 7 #[v, .int .i64 n] w fun e w' => e = .returned (.bool true) ∧ Below w.heap.size w w' := by
  obtain ⟨A, c, rfl⟩ := h.form
  have HR := Lib.hid (rules_any w hT)
  have HTl : Hid (∀ W, Below w.heap.size w W → Tabs W ∧ ErrT W) := fun W hW => ⟨hT.1.later hW, hT.2.later hW⟩
  have HP := Lib.hid (fun W (hW : Below w.heap.size w W) => print_any l _ P W (h.later hW) (HTl.out W hW).1)
  have HH := Lib.hid h
  clear h hT
  go_enter Tryd.func7, Tryd.ntmps7
  go_wp2_with fail
  refine HR.out.mono ?_
  rintro e w2 ⟨rfl, hb2⟩
  have HP2 := Lib.hid (HP.out w2 hb2)
  have HB2 := Lib.hid hb2
  clear hb2 HR HP
  have HWi := Lib.hid (fun W => within_any n 0 3 W (by omega) (by omega) (by omega))
  have hw0 := wi_lo n 0 3 (by omega)
  have hw1 := wi_hi n 0 3 (by omega)
  generalize wi n 0 3 = q at *
  obtain ⟨m, rfl⟩ := Int.eq_ofNat_of_zero_le hw0
  have hm3 : m ≤ 3 := by omega
  clear hw0 hw1
  generalize hce : checkE l = ce at *
  by_cases h0 : ce = 0
  case neg =>
    have u0 : (ce != 0) = true := by rw [bne_iff_ne]; exact h0
    have hX : (if ce = 0 then printS l else []) = [] := if_neg h0
    rw [hX] at HP2
    have hE : Bs [] = ⟨#[]⟩ := rfl
    rw [hE] at HP2
    clear h0 hX hE
    go_wp2_with fail
    refine HP2.out.mono ?_
    rintro e w3 ⟨rfl, hb3⟩
    have HB3 := Lib.hid (HB2.out.trans (hb3.mono HB2.out.size))
    clear hb3 HP2 HB2
    go_wp2_with fail
    refine (HWi.out _).mono ?_
    rintro e w4 ⟨rfl, rfl⟩
    go_wp2_with fail
    go_ret
    exact ⟨rfl, HB3.out⟩
  have u0 : (ce != 0) = false := by rw [bne_eq_false_iff_eq]; exact h0
  have hok := check_ok (hce.trans h0)
  have HRo := Lib.hid (rules_ok hok.2.1)
  have HCe := Lib.hid (hce.trans h0)
  have hX : (if ce = 0 then printS l else []) = printS l := if_pos h0
  rw [hX] at HP2
  have hl32 := hok.1
  have hsz := bs_size (printS l)
  clear hok hX hce h0
  by_cases hbig : 1000 < (printS l).length
  case pos =>
    have u1 : decide (((Bs (printS l)).size : Int) > 1000) = true := by rw [hsz]; simp; omega
    generalize Bs (printS l) = PS at *
    clear hbig hsz
    go_wp2_with fail
    refine HP2.out.mono ?_
    rintro e w3 ⟨rfl, hb3⟩
    have HB3 := Lib.hid (HB2.out.trans (hb3.mono HB2.out.size))
    clear hb3 HP2 HB2
    go_wp2_with fail
    refine (HWi.out _).mono ?_
    rintro e w4 ⟨rfl, rfl⟩
    go_wp2_with fail
    go_ret
    exact ⟨rfl, HB3.out⟩
  have u1 : decide (((Bs (printS l)).size : Int) > 1000) = false := by rw [hsz]; simp; omega
  have hlm := mid_len m l
  have hlw := wid_len m l
  have hwt := wide_text m HRo.out
  have hpw := parse_wide HRo.out m
  have hrc := rep_colon m l HRo.out
  have hwt2 : Lib.replaceAll (l.flatMap (midS m)) [59] (cls' m ++ [10, 32, 59]) = widS m l := by rw [← hrc]; exact hwt
  have ho : (opn m).length = 3 * m := by simp [opn, Lib.repeatL_length]; omega
  have hcl : (cls' m).length = 2 * m := by simp [cls', Lib.repeatL_length]; omega
  have HR1 : Hid (∀ W, Below w.heap.size w W → Calls Tryd.prog 20 #[.string (Bs (printS l)), .string ⟨#[58, 32]⟩, .string (Bs ([32, 58] ++ opn m))] W fun e w' => e = .returned (.string (Bs (l.flatMap (midS m)))) ∧ Below W.heap.size W w') := by
    intro W hW
    obtain ⟨mm, hmm⟩ := (HTl.out W hW).1.mx
    have hc := Lib.countB_le ⟨#[58, 32]⟩ (by decide) (Bs (printS l)).size (Bs (printS l)) (Nat.le_refl _)
    have hn : (Bs ([32, 58] ++ opn m)).size = 2 + 3 * m := by rw [bs_size]; simp [opn, Lib.repeatL_length]; omega
    have := strings_ReplaceAll (Bs (printS l)) ⟨#[58, 32]⟩ (Bs ([32, 58] ++ opn m)) mm W (by omega) hmm (by decide) (by
      rw [hn]
      have h1 : Lib.countB (Bs (printS l)) ⟨#[58, 32]⟩ * (2 + 3 * m) ≤ 1000 * 11 := Nat.mul_le_mul (by omega) (by omega)
      omega)
    rw [bs_toList, bs_toList, hrc] at this
    exact this
  have HR2 : Hid (∀ W, Below w.heap.size w W → Calls Tryd.prog 20 #[.string (Bs (l.flatMap (midS m))), .string ⟨#[59]⟩, .string (Bs (cls' m ++ [10, 32, 59]))] W fun e w' => e = .returned (.string (Bs (widS m l))) ∧ Below W.heap.size W w') := by
    intro W hW
    obtain ⟨mm, hmm⟩ := (HTl.out W hW).1.mx
    have hz : (Bs (l.flatMap (midS m))).size ≤ 1300 := by
      rw [bs_size, hlm]
      have : l.length * (3 * m) ≤ 32 * 9 := Nat.mul_le_mul hl32 (by omega)
      omega
    have hc := Lib.countB_le ⟨#[59]⟩ (by decide) (Bs (l.flatMap (midS m))).size (Bs (l.flatMap (midS m))) (Nat.le_refl _)
    have hn : (Bs (cls' m ++ [10, 32, 59])).size = 2 * m + 3 := by rw [bs_size]; simp [cls', Lib.repeatL_length]; omega
    have := strings_ReplaceAll (Bs (l.flatMap (midS m))) ⟨#[59]⟩ (Bs (cls' m ++ [10, 32, 59])) mm W (by omega) hmm (by decide) (by
      rw [hn]
      have h1 : Lib.countB (Bs (l.flatMap (midS m))) ⟨#[59]⟩ * (2 * m + 3) ≤ 1300 * 9 := Nat.mul_le_mul (by omega) (by omega)
      omega)
    rw [bs_toList, bs_toList, hwt2] at this
    exact this
  have hlen5 : ([10, 32] ++ widS m l).length ≤ 4096 := by
    have : l.length * (5 * m + 2) ≤ 32 * 17 := Nat.mul_le_mul hl32 (by omega)
    rw [List.length_append, hlw]
    simp
    omega
  have HPa := Lib.hid (fun W (hW : Below w.heap.size w W) => parse_any (Bs ([10, 32] ++ widS m l)) W (by rw [bs_size]; exact hlen5) (HTl.out W hW))
  rw [bs_toList, hpw] at HPa
  have HRp : Hid (∀ W, Calls Tryd.prog 21 #[.string ⟨#[40, 32, 10]⟩, .int .i64 m] W fun e w' => e = .returned (.string (Bs (opn m))) ∧ Below W.heap.size W w') := fun W => strings_Repeat ⟨#[40, 32, 10]⟩ m W (by omega) (by show 3 * m ≤ _; omega)
  have HRq : Hid (∀ W, Calls Tryd.prog 21 #[.string ⟨#[32, 41]⟩, .int .i64 m] W fun e w' => e = .returned (.string (Bs (cls' m))) ∧ Below W.heap.size W w') := fun W => strings_Repeat ⟨#[32, 41]⟩ m W (by omega) (by show 2 * m ≤ _; omega)
  have k1 := fun w => cat_run (P := Tryd.prog) [32, 58] (opn m) (by simp; omega) w
  have k2 := fun w => cat_run (P := Tryd.prog) (cls' m) [10, 32, 59] (by simp; omega) w
  have k3 := fun w => cat_run (P := Tryd.prog) [10, 32] (widS m l) (by simp at hlen5 ⊢; omega) w
  clear hlm hlw hwt hwt2 hpw hrc hlen5 hbig hsz ho hcl
  generalize hPS : Bs (printS l) = PS at *
  generalize Bs (opn m) = O1 at *
  generalize Bs (cls' m) = O2 at *
  generalize Bs (l.flatMap (midS m)) = PM at *
  generalize hPW : Bs (widS m l) = PW at *
  generalize Bs ([32, 58] ++ opn m) = N1 at *
  generalize Bs (cls' m ++ [10, 32, 59]) = N2 at *
  generalize Bs ([10, 32] ++ widS m l) = PF at *
  clear hPS hPW
  go_wp2_with fail
  refine HP2.out.mono ?_
  rintro e w3 ⟨rfl, hb3⟩
  have HB3 := Lib.hid (HB2.out.trans (hb3.mono HB2.out.size))
  clear hb3 HP2 HB2
  go_wp2_with fail
  refine (HWi.out _).mono ?_
  rintro e w4 ⟨rfl, rfl⟩
  go_wp2_with fail
  refine (HRp.out _).mono ?_
  rintro e w4 ⟨rfl, hb4⟩
  have HB4 := Lib.hid (HB3.out.trans (hb4.mono HB3.out.size))
  clear hb4 HRp HB3
  go_wp2_with fail
  refine (HR1.out _ HB4.out).mono ?_
  rintro e w5 ⟨rfl, hb5⟩
  have HB5 := Lib.hid (HB4.out.trans (hb5.mono HB4.out.size))
  clear hb5 HR1 HB4
  go_wp2_with fail
  refine (HRq.out _).mono ?_
  rintro e w6 ⟨rfl, hb6⟩
  have HB6 := Lib.hid (HB5.out.trans (hb6.mono HB5.out.size))
  clear hb6 HRq HB5
  go_wp2_with fail
  refine (HR2.out _ HB6.out).mono ?_
  rintro e w7 ⟨rfl, hb7⟩
  have HB7 := Lib.hid (HB6.out.trans (hb7.mono HB6.out.size))
  clear hb7 HR2 HB6
  go_wp2_with fail
  refine (HPa.out _ HB7.out).mono ?_
  rintro e w8 ⟨hb8, hq⟩
  have HB8 := Lib.hid (HB7.out.trans (hb8.mono HB7.out.size))
  rcases hq with ⟨-, u, hu, rfl⟩ | ⟨hn, -⟩
  case inr => exact absurd HCe.out hn
  have HE := Lib.hid (eqr_any l _ u _ _ w8 (HH.out.later HB8.out) hu)
  obtain ⟨A2, c2, rfl⟩ := hu.form
  clear hb8 hu HPa HB7
  go_wp2_with fail
  refine HE.out.mono ?_
  rintro e w9 ⟨rfl, hb9⟩
  have HB9 := Lib.hid (HB8.out.trans (hb9.mono HB8.out.size))
  clear hb9
  go_wp2_with fail
  go_ret
  exact ⟨rfl, HB9.out⟩
end Go.Proofs.YtonmpealebggoaaDoor
