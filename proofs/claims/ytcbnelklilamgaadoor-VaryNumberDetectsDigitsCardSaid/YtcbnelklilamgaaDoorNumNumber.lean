/- The walk of Number. -/
import Derived.Test.YtcbnelklilamgaaDoorNumCheck
import Derived.Lib.ItoaLen
namespace Go.Proofs.YtcbnelklilamgaaDoor
open Go.RowKit Num Go.Lib Go.Joins
theorem nDigits_le (d n : Nat) (hd : 1 ≤ d) : nDigits n ≤ d ↔ n < 10 ^ d := by
  refine ⟨lt_of_digits, fun h => ?_⟩
  induction d generalizing n with
  | zero => omega
  | succ d ih =>
    by_cases h10 : n < 10
    · rw [nDigits_small h10]; omega
    · rw [nDigits_big h10]
      rw [Nat.pow_succ] at h
      have hd1 : 1 ≤ d := by
        rcases Nat.eq_zero_or_pos d with rfl | h1
        · simp at h; omega
        · exact h1
      have := ih (n / 10) hd1 (by omega)
      omega
theorem itoa_b (n : Nat) (h : n ≤ 9223372036854775807) (w : World) (hT : Tab10 w) : Calls Tryd.prog 32 #[.int .i64 n] w fun e w' => e = .returned (.string (B (decDigits n))) ∧ Below w.heap.size w w' :=
  (strconv_Itoa n (by omega) (by omega) w hT).mono fun e w' ⟨a, k, os, b⟩ => ⟨by rw [a, itoa_nonneg]; rfl, by rw [b]; exact below_grow _ w (Nat.le_refl _) k os⟩
theorem itoa_s (n : Nat) (h : n < 100) (w : World) : Calls Tryd.prog 32 #[.int .i64 n] w fun e w' => e = .returned (.string (B (decDigits n))) ∧ w = w' :=
  (strconv_Itoa_small n h w).mono fun e w' ⟨a, b⟩ => ⟨by rw [a]; rfl, b.symm⟩
theorem zeros_any (c : Nat) (h : c ≤ 100) (w : World) : Calls Tryd.prog 33 #[.string { data := #[48] }, .int .i64 c] w fun e w' => e = .returned (.string (B (List.replicate c 48))) ∧ Below w.heap.size w w' :=
  (strings_Repeat { data := #[48] } c w (by omega) (by rw [show (ByteArray.mk #[48]).size = 1 from rfl]; omega)).mono fun e w' ⟨a, b⟩ => ⟨by rw [a, ← repeat_rep]; rfl, b⟩
theorem zeros_int (c : Nat) (z : Int) (hz : z = c) (h : c ≤ 100) (w : World) : Calls Tryd.prog 33 #[.string { data := #[48] }, .int .i64 z] w fun e w' => e = .returned (.string (B (List.replicate c 48))) ∧ Below w.heap.size w w' := by
  subst hz; exact zeros_any c h w
/-- Number's answer where the number has a place. -/
theorem number_ok (d n : Nat) (w : World) (hT : Tab10 w) (h1 : 1 ≤ d) (h2 : d ≤ 12) (hn : n < 10 ^ d) :
    Calls Tryd.prog 17 #[.int .i64 n, .int .i64 d] w fun e w' => e = .returned (.tuple #[.string (B (numbered d n)), .int .i64 0]) ∧ Below w.heap.size w w' := by
  have hn12 : n < 1000000000000 := Nat.lt_of_lt_of_le hn (Nat.pow_le_pow_right (n := 10) (by decide) h2)
  have hnd := (nDigits_le d n h1).2 hn
  have HI := Lib.hid (itoa_b n (by omega) w hT)
  have HP : Hid (List.replicate (d - nDigits n) 48 ++ decDigits n = pad d n) := (pad_dec d n hnd).symm
  have hl := dec_length n
  have hpos := nDigits_pos n
  have hsz : Hid ((B (decDigits n)).size = nDigits n) := by unfold Hid; rw [B_size, hl]
  have HC : Hid (∀ w, Calls Tryd.prog 34 #[.string (B (pad d n))] w fun e w' => e = .returned (.int .i64 (chk n : Nat)) ∧ w = w') := fun w => by
    have := check_any (B (pad d n)) w (by rw [B_size, pad_length]; omega) (by rw [B_data]; exact pad_digs d n)
    rw [B_data, val_pad d n hn] at this
    exact this
  have HNum : Hid (numbered d n = pad d n ++ pad 2 (chk n)) := rfl
  have hchk := chk_le n
  have HL : Hid ((pad d n).length = d) := pad_length d n
  have HP2 : Hid (List.replicate (2 - nDigits (chk n)) 48 ++ decDigits (chk n) = pad 2 (chk n)) := (pad_dec 2 _ ((nDigits_le 2 _ (by decide)).2 (by omega))).symm
  have hn2 : nDigits (chk n) ≤ 2 := (nDigits_le 2 _ (by decide)).2 (by omega)
  have hsz2 : Hid ((B (decDigits (chk n))).size = nDigits (chk n)) := by unfold Hid; rw [B_size, dec_length]
  generalize chk n = c at *
  generalize nDigits c = kc at *
  generalize nDigits n = kn at *
  generalize hpd : pad d n = pd at *
  clear hl hn hT hpd
  have HTn : Hid (kn ≤ d) := hnd
  go_enter Tryd.func17, Tryd.ntmps17
  go_wp2_with fail
  refine HI.out.mono ?_; rintro e w1 ⟨rfl, hb1⟩
  have HB1 := Lib.hid hb1
  clear hb1
  have hs1 := hsz.out
  go_wp2_with fail
  refine (zeros_int (d - kn) _ (by omega) (by omega) _).mono ?_; rintro e w2 ⟨rfl, hb2⟩
  have HB2 := Lib.hid (HB1.out.trans (hb2.mono HB1.out.size))
  clear hb2
  have e1 := B_app (List.replicate (d - kn) 48) (decDigits n)
  rw [HP.out] at e1
  have hz1 : (B (List.replicate (d - kn) 48)).size = d - kn := by rw [B_size, List.length_replicate]
  go_wp2_with fail
  refine (HC.out _).mono ?_; rintro e w3 ⟨rfl, rfl⟩
  clear e1 hz1 hs1
  have hs2 := hsz2.out
  go_wp2_with (go_at_call 32; refine (itoa_s c (by omega) _).mono ?_; rintro e w3 ⟨rfl, rfl⟩)
  refine (zeros_int (2 - kc) _ (by omega) (by omega) _).mono ?_; rintro e w4 ⟨rfl, hb4⟩
  have HB4 := Lib.hid (HB2.out.trans (hb4.mono HB2.out.size))
  clear hb4
  have hz2 : (B (List.replicate (2 - kc) 48)).size = 2 - kc := by rw [B_size, List.length_replicate]
  have hz3 : (B pd).size = d := by rw [B_size, HL.out]
  have e2 := B_app pd (List.replicate (2 - kc) 48)
  have hz4 : (B (pd ++ List.replicate (2 - kc) 48)).size = d + (2 - kc) := by rw [B_size, List.length_append, HL.out, List.length_replicate]
  have e3 := B_app (pd ++ List.replicate (2 - kc) 48) (decDigits c)
  rw [List.append_assoc, HP2.out, ← HNum.out] at e3
  go_wp2_with fail
  go_ret2
  exact ⟨rfl, HB4.out⟩
theorem number_range (d : Int) (n : Int) (w : World) (h1 : 1 ≤ d) (h2 : d ≤ 12) (hn : n < 0) :
    Calls Tryd.prog 17 #[.int .i64 n, .int .i64 d] w fun e w' => e = .returned (.tuple #[.string { data := #[] }, .int .i64 3]) ∧ w = w' := by
  go_enter Tryd.func17, Tryd.ntmps17
  go_wp2
  go_ret2
  exact ⟨rfl, rfl⟩
theorem number_fit (d n : Nat) (w : World) (hT : Tab10 w) (h1 : 1 ≤ d) (h2 : d ≤ 12) (hn : n ≤ 9223372036854775807) (hbig : ¬ n < 10 ^ d) :
    Calls Tryd.prog 17 #[.int .i64 n, .int .i64 d] w fun e w' => e = .returned (.tuple #[.string { data := #[] }, .int .i64 19]) ∧ Below w.heap.size w w' := by
  have hnd : d < nDigits n := by have := (nDigits_le d n h1).1; omega
  have HI := Lib.hid (itoa_b n hn w hT)
  have hsz : (B (decDigits n)).size = nDigits n := by rw [B_size, dec_length]
  have hn20 : nDigits n ≤ 20 := nDigits_le20 n (by omega)
  generalize nDigits n = kn at *
  clear hT hbig
  go_enter Tryd.func17, Tryd.ntmps17
  go_wp2_with fail
  refine HI.out.mono ?_; rintro e w1 ⟨rfl, hb1⟩
  have HB1 := Lib.hid hb1
  clear hb1
  go_wp2_with fail
  go_ret2
  exact ⟨rfl, HB1.out⟩
end Go.Proofs.YtcbnelklilamgaaDoor
