/- The walk of VaryNumberDetectsDigits: a wrong digit and two exchanged ones are noticed. -/
import Derived.Test.YtcbnelklilamgaaDoorNumVerify
import Derived.Test.YtcbnelklilamgaaDoorWithin
import Derived.Deep.QuietTactic
import Derived.BigQuiet
import Derived.BigRegion
import Derived.RegionTactic
namespace Go.Proofs.YtcbnelklilamgaaDoor
open Go.RowKit Num Go.Lib Go.Joins
namespace Num
theorem digs_set {l : List UInt8} (hd : Digs l) (j : Nat) {c : UInt8} (hc : 48 ≤ c.toNat ∧ c.toNat ≤ 57) : Digs (l.set j c) := fun x hx => by
  rcases List.mem_or_eq_of_mem_set hx with h | h
  · exact hd x h
  · rw [h]; exact hc
theorem digs_at {l : List UInt8} (hd : Digs l) (j : Nat) (h : j < l.length) : 48 ≤ (l.getD j 0).toNat ∧ (l.getD j 0).toNat ≤ 57 := by
  rw [List.getD_eq_getElem?_getD, List.getElem?_eq_getElem h]; exact hd _ (List.getElem_mem h)
theorem split_at (l : List UInt8) (j : Nat) (h : j < l.length) : l = l.take j ++ l.getD j 0 :: l.drop (j + 1) := by
  rw [List.getD_eq_getElem?_getD, List.getElem?_eq_getElem h]
  show l = l.take j ++ l[j] :: l.drop (j + 1)
  rw [List.getElem_cons_drop]; simp
theorem set_at (l : List UInt8) (j : Nat) (h : j < l.length) (c : UInt8) : l.set j c = l.take j ++ c :: l.drop (j + 1) := List.set_eq_take_append_cons_drop.trans (if_pos h)
theorem bad_set {l : List UInt8} (hd : Digs l) (hg : good l = true) (j : Nat) (h : j < l.length) (c : UInt8) (hc : 48 ≤ c.toNat ∧ c.toNat ≤ 57) (hne : l.getD j 0 ≠ c) : good (l.set j c) = false := by
  rw [set_at l j h]
  refine bad_digit (x := l.getD j 0) ?_ (digs_at hd j h) hc hne
  rw [← split_at l j h]; exact hg
theorem bad_exch {l : List UInt8} (hd : Digs l) (hg : good l = true) (j : Nat) (h : j + 1 < l.length) (hne : l.getD j 0 ≠ l.getD (j + 1) 0) : good ((l.set j (l.getD (j + 1) 0)).set (j + 1) (l.getD j 0)) = false := by
  have e1 : l = l.take j ++ l.getD j 0 :: l.getD (j + 1) 0 :: l.drop (j + 2) := by
    have a := split_at l j (by omega)
    have b := split_at (l.drop (j + 1)) 0 (by simp; omega)
    rw [List.take_zero, List.nil_append, List.drop_drop] at b
    have g : (l.drop (j + 1)).getD 0 0 = l.getD (j + 1) 0 := by simp [List.getD_eq_getElem?_getD, List.getElem?_drop]
    rw [g] at b
    rw [show j + 2 = j + 1 + (0 + 1) by omega, ← b]; exact a
  have hj : (l.take j).length = j := by rw [List.length_take]; omega
  have e2 : (l.set j (l.getD (j + 1) 0)).set (j + 1) (l.getD j 0) = l.take j ++ l.getD (j + 1) 0 :: l.getD j 0 :: l.drop (j + 2) := by
    generalize l.getD j 0 = x at *
    generalize l.getD (j + 1) 0 = y at *
    generalize l.take j = a at *
    generalize l.drop (j + 2) = b at *
    subst e1
    subst hj
    simp
  rw [e2]
  refine bad_swap ?_ (digs_at hd j (by omega)) (digs_at hd (j + 1) h) hne
  rw [← e1]; exact hg
end Num
theorem verify_777 (w : World) (hT : Tab10 w) : Calls Tryd.prog 15 #[.string { data := #[48, 48, 55, 55, 55] }] w fun e w' => e = .returned (.tuple #[.int .i64 7, .int .i64 0]) ∧ Below w.heap.size w w' :=
  (verify_any [48, 48, 55, 55, 55] (fun c hc => by simp at hc; rcases hc with rfl | rfl <;> decide) (by decide) (by decide) w hT).mono fun e w' ⟨a, b⟩ => ⟨by
    rw [a, show good [48, 48, 55, 55, 55] = true by decide +kernel, show val (([48, 48, 55, 55, 55] : List UInt8).take (([48, 48, 55, 55, 55] : List UInt8).length - 2)) = 7 by decide +kernel]; rfl, b⟩
theorem verify_good (k m : Nat) (w : World) (hT : Tab10 w) (h1 : 1 ≤ k) (h2 : k ≤ 12) (hm : m < 10 ^ k) : Calls Tryd.prog 15 #[.string (B (numbered k m))] w fun e w' => e = .returned (.tuple #[.int .i64 m, .int .i64 0]) ∧ Below w.heap.size w w' := by
  have hl := numbered_length k m
  obtain ⟨g1, g2⟩ := good_numbered k m hm
  refine (verify_any (numbered k m) (numbered_digs k m) (by omega) (by omega) w hT).mono fun e w' ⟨a, b⟩ => ⟨?_, b⟩
  rw [a, g1, hl, show k + 2 - 2 = k by omega, g2]; rfl
theorem verify_bad (l : List UInt8) (w : World) (hT : Tab10 w) (hd : Digs l) (h1 : 3 ≤ l.length) (h2 : l.length ≤ 14) (hg : good l = false) : Calls Tryd.prog 15 #[.string (B l)] w fun e w' => e = .returned (.tuple #[.int .i64 0, .int .i64 11]) ∧ Below w.heap.size w w' := by
  refine (verify_any l hd h1 h2 w hT).mono fun e w' ⟨a, b⟩ => ⟨?_, b⟩
  rw [a, hg]; rfl
/-- What the text writes over a digit. -/
def turned (c : UInt8) (y : Nat) : UInt8 := UInt8.ofNat (48 + (c.toNat - 48 + y) % 10)
theorem turned_nat (c : UInt8) (y : Nat) : (turned c y).toNat = 48 + (c.toNat - 48 + y) % 10 := by unfold turned; rw [UInt8.toNat_ofNat']; omega
theorem turned_ne (c : UInt8) (y : Nat) (hc : 48 ≤ c.toNat ∧ c.toNat ≤ 57) (h1 : 1 ≤ y) (h9 : y ≤ 9) : c ≠ turned c y := fun e => by
  have := congrArg UInt8.toNat e
  rw [turned_nat] at this
  omega
theorem row_string {w : World} {g : Nat} {t : List UInt8} (h : BRow w g t) (cap : Nat) : (convert 43 9 (.slice (some ⟨g, 0, none⟩) t.length cap)).run Tryd.prog w = .ok (.string (B t)) w :=
  run_convert_bytes_back (P := Tryd.prog) w 43 9 5 ⟨g, 0, none⟩ cap t Tryd.underlying43 Tryd.underlying5 Tryd.underlying9
    (fun j hj => by
      rw [show (⟨g, 0, none⟩ : Addr).add j = ⟨g, j, none⟩ by unfold Addr.add; split <;> simp_all]
      rw [h.at_ hj, List.getD_eq_getElem?_getD, List.getElem?_eq_getElem hj]; rfl)
theorem turned_val (c : UInt8) (y : Nat) (hc : 48 ≤ c.toNat ∧ c.toNat ≤ 57) : (48 + ((c.toNat : Int) - 48 + (y : Int)) % 10) = ((turned c y).toNat : Int) := by
  rw [turned_nat]; omega
set_option maxRecDepth 20000 in
set_option maxHeartbeats 4000000 in
theorem num_ok (d a b : Int) (m : Nat) (w : World) (hT : Tab10 w) (hm : m ≤ 9223372036854775807) :
    Calls Tryd.prog 5 #[.int .i64 m, .int .i64 d, .int .i64 a, .int .i64 b] w fun e w' => e = .returned (.bool true) ∧ Below w.heap.size w w' := by
  have HV7 := Lib.hid (verify_777 w hT)
  have HT := Lib.hid hT
  clear hT
  go_enter Tryd.func5, Tryd.ntmps5
  go_wp2_with fail
  refine HV7.out.mono ?_; rintro e w1 ⟨rfl, hb1⟩
  have HB1 := Lib.hid hb1
  clear hb1
  go_wp2_with fail
  refine (within_range d 1 12 _ (by omega) (by omega) (by omega)).mono ?_; rintro e w' ⟨r, hr0, hr1, rfl, rfl⟩
  obtain ⟨k, rfl⟩ := Int.eq_ofNat_of_zero_le (Int.le_trans (by decide) hr0)
  have HT1 := Lib.hid (HT.out.later HB1.out)
  by_cases hbig : m < 10 ^ k
  · have HM : Hid (m < 10 ^ k) := hbig
    clear hbig
    go_wp2_with fail
    refine (number_ok k m _ HT1.out (by omega) (by omega) HM.out).mono ?_; rintro e w2 ⟨rfl, hb2⟩
    have HB2 := Lib.hid (HB1.out.trans (hb2.mono HB1.out.size))
    have HT2 := Lib.hid (HT.out.later HB2.out)
    clear hb2
    go_wp2_with fail
    refine (verify_good k m _ HT2.out (by omega) (by omega) HM.out).mono ?_; rintro e w3 ⟨rfl, hb3⟩
    have HB3 := Lib.hid (HB2.out.trans (hb3.mono HB2.out.size))
    have HT3 := Lib.hid (HT.out.later HB3.out)
    clear hb3
    have HG := Lib.hid (good_numbered k m HM.out).1
    have HD := Lib.hid (numbered_digs k m)
    have HL := Lib.hid (numbered_length k m)
    have hsz : (B (numbered k m)).size = k + 2 := by rw [B_size, HL.out]
    generalize numbered k m = l at *
    go_wp2_with fail
    refine (within_range a 0 ((k : Int) + 2 - 1) _ (by omega) (by omega) (by omega)).mono ?_; rintro e w' ⟨ja, ja0, ja1, rfl, rfl⟩
    go_wp2_with fail
    refine (within_range b 1 9 _ (by omega) (by omega) (by omega)).mono ?_; rintro e w' ⟨y, y0, y1, rfl, rfl⟩
    obtain ⟨j, rfl⟩ := Int.eq_ofNat_of_zero_le ja0
    obtain ⟨y, rfl⟩ := Int.eq_ofNat_of_zero_le (Int.le_trans (by decide) y0)
    obtain ⟨cap, w4, hrun, hb4, hlt4, hrow4⟩ := run_bytes (P := Tryd.prog) w3 9 43 5 (B l) Tryd.underlying9 Tryd.underlying43 Tryd.underlying5
    rw [B_data] at hrow4
    have HB4 := Lib.hid (HB3.out.trans (hb4.mono HB3.out.size))
    have HR := Lib.hid hrow4
    have hjl : j < l.length := by rw [HL.out]; omega
    have hc4 := hrow4.at_ hjl
    have hf4 := hrow4.free_ hjl
    have hdj := digs_at HD.out j hjl
    have HW := Lib.hid hlt4
    generalize hcc : l.getD j 0 = c at *
    have HC := Lib.hid hcc
    obtain ⟨hdj1, hdj2⟩ := hdj
    clear hb4 hrow4 hcc hjl
    have HE := Lib.hid (turned_val c y ⟨hdj1, hdj2⟩)
    have h5 := HR.out.put (k := j) (by rw [HL.out]; omega) (turned c y)
    have hcv := row_string h5 cap
    rw [List.length_set, HL.out, ← HE.out] at hcv
    have HB5 : Hid (Below w.heap.size w (w4.setCell ⟨w3.heap.size, j, none⟩ (.int .u8 (48 + ((c.toNat : Int) - 48 + (y : Int)) % 10)))) := HB4.out.setCell HB3.out.size _
    have HVb : Hid (∀ w, Tab10 w → Calls Tryd.prog 15 #[.string (B (l.set j (turned c y)))] w fun e w' => e = .returned (.tuple #[.int .i64 0, .int .i64 11]) ∧ Below w.heap.size w w') := fun w hT =>
      verify_bad _ w hT (digs_set HD.out j (by rw [turned_nat]; omega)) (by rw [List.length_set, HL.out]; omega) (by rw [List.length_set, HL.out]; omega)
        (bad_set HD.out HG.out j (by rw [HL.out]; omega) _ (by rw [turned_nat]; omega) (by rw [HC.out]; exact turned_ne c y ⟨hdj1, hdj2⟩ (by omega) (by omega)))
    generalize l.set j (turned c y) = l2 at *
    clear h5
    go_wp2_with fail
    refine (HVb.out _ (HT.out.later HB5.out)).mono ?_; rintro e w6 ⟨rfl, hb6⟩
    have HB6 := Lib.hid (HB5.out.trans (hb6.mono HB5.out.size))
    have HT6 := Lib.hid (HT.out.later HB6.out)
    clear hb6 hcv HB5 HB4 HR HVb hc4 hf4 hrun hlt4 HW HE
    obtain ⟨cap7, w7, hrun7, hb7, hlt7, hrow7⟩ := run_bytes (P := Tryd.prog) w6 9 43 5 (B l) Tryd.underlying9 Tryd.underlying43 Tryd.underlying5
    rw [B_data] at hrow7
    have HB7 := Lib.hid (HB6.out.trans (hb7.mono HB6.out.size))
    have HR7 := Lib.hid hrow7
    have HLt := Lib.hid hlt7
    clear hb7
    by_cases hj1 : j + 1 < k + 2
    · have hjl : j < l.length := by rw [HL.out]; omega
      have hjl2 : j + 1 < l.length := by rw [HL.out]; omega
      have hc7 := hrow7.at_ hjl
      have hf7 := hrow7.free_ hjl
      have hc8 := hrow7.at_ hjl2
      have hf8 := hrow7.free_ hjl2
      rw [HC.out] at hc7
      generalize hxx : l.getD (j + 1) 0 = x at *
      have HX := Lib.hid hxx
      have hjk : decide ((j : Int) + 1 < (k : Int) + 2) = true := decide_eq_true (by omega)
      clear hrow7 hjl hjl2 hxx
      go_wp2
      go_quiet (fail)
      go_wp2
      · have hneq : c.toNat ≠ x.toNat := by rename_i h' _ _; intro e; simp [e] at h'
        have HNe := Lib.hid hneq
        have hr8 : BRow (w7.drewN nq) w6.heap.size l := HR7.out.drewN nq
        have HB8 := Lib.hid (below_drewN HB7.out nq)
        have HLt8 : Hid (w6.heap.size < (w7.drewN nq).heap.size) := hlt7
        clear hc7 hf7 hc8 hf8 hrun7 hneq
        generalize w7.drewN nq = w8 at *
        have hjl : j < l.length := by rw [HL.out]; omega
        have hjl2 : j + 1 < l.length := by rw [HL.out]; omega
        have hc7 := hr8.at_ hjl
        have hf7 := hr8.free_ hjl
        have hc8 := hr8.at_ hjl2
        have hf8 := hr8.free_ hjl2
        rw [HC.out] at hc7
        rw [HX.out] at hc8
        have HR8 := Lib.hid hr8
        clear hr8 hjl hjl2
        go_region
        have h9 : BRow ((w8.setCell ⟨w6.heap.size, j, none⟩ (.int .u8 (x.toNat : Int))).setCell ⟨w6.heap.size, j + 1, none⟩ (.int .u8 (c.toNat : Int))).drew w6.heap.size ((l.set j x).set (j + 1) c) :=
          ((HR8.out.put (k := j) (by rw [HL.out]; omega) x).put (k := j + 1) (by rw [List.length_set, HL.out]; omega) c).drew
        have HB9 : Hid (Below w.heap.size w ((w8.setCell ⟨w6.heap.size, j, none⟩ (.int .u8 (x.toNat : Int))).setCell ⟨w6.heap.size, j + 1, none⟩ (.int .u8 (c.toNat : Int))).drew) :=
          ((HB8.out.setCell HB6.out.size _).setCell HB6.out.size _).drew
        have hcv9 := row_string h9 cap7
        rw [List.length_set, List.length_set, HL.out] at hcv9
        have HVe : Hid (∀ w, Tab10 w → Calls Tryd.prog 15 #[.string (B ((l.set j x).set (j + 1) c))] w fun e w' => e = .returned (.tuple #[.int .i64 0, .int .i64 11]) ∧ Below w.heap.size w w') := fun w hT =>
          verify_bad _ w hT (digs_set (digs_set HD.out j (by rw [← HX.out]; exact digs_at HD.out _ (by rw [HL.out]; omega))) _ ⟨hdj1, hdj2⟩) (by rw [List.length_set, List.length_set, HL.out]; omega) (by rw [List.length_set, List.length_set, HL.out]; omega)
            (by
              have := bad_exch HD.out HG.out j (by rw [HL.out]; omega) (by rw [HC.out, HX.out]; exact fun e => HNe.out (by rw [e]))
              rwa [HC.out, HX.out] at this)
        generalize (l.set j x).set (j + 1) c = l9 at *
        generalize (World.drew _) = w9 at *
        clear h9 hc7 hf7 hc8 hf8
        go_wp2_with fail
        refine (HVe.out _ (HT.out.later HB9.out)).mono ?_; rintro e w10 ⟨rfl, hb10⟩
        have HB10 := Lib.hid (HB9.out.trans (hb10.mono HB9.out.size))
        clear hb10
        go_wp2_with fail
        go_ret
        exact ⟨rfl, HB10.out⟩
      · go_ret
        exact ⟨rfl, below_drewN HB7.out _⟩
    · have hjk : decide ((j : Int) + 1 < (k : Int) + 2) = false := decide_eq_false (by omega)
      clear hrow7
      go_wp2
      go_quiet (fail)
      go_wp2
      go_ret
      exact ⟨rfl, below_drewN HB7.out _⟩
  · have HN := Lib.hid (number_fit k m w1 HT1.out (by omega) (by omega) hm hbig)
    clear hbig
    go_wp2_with fail
    refine HN.out.mono ?_; rintro e w2 ⟨rfl, hb2⟩
    have HB2 := Lib.hid (HB1.out.trans (hb2.mono HB1.out.size))
    clear hb2
    go_wp2_with fail
    go_ret
    exact ⟨rfl, HB2.out⟩
theorem num_any (n d a b : Int) (w : World) (hT : Tab10 w) (hn : n ≤ 9223372036854775807) :
    Calls Tryd.prog 5 #[.int .i64 n, .int .i64 d, .int .i64 a, .int .i64 b] w fun e w' => e = .returned (.bool true) ∧ Below w.heap.size w w' := by
  by_cases h0 : 0 ≤ n
  · obtain ⟨m, rfl⟩ := Int.eq_ofNat_of_zero_le h0
    exact num_ok d a b m w hT (by omega)
  · have HV7 := Lib.hid (verify_777 w hT)
    clear hT
    go_enter Tryd.func5, Tryd.ntmps5
    go_wp2_with fail
    refine HV7.out.mono ?_; rintro e w1 ⟨rfl, hb1⟩
    have HB1 := Lib.hid hb1
    clear hb1
    go_wp2_with fail
    refine (within_range d 1 12 _ (by omega) (by omega) (by omega)).mono ?_; rintro e w' ⟨r, hr0, hr1, rfl, rfl⟩
    go_wp2_with fail
    refine (number_range r n _ (by omega) (by omega) (by omega)).mono ?_; rintro e w2 ⟨rfl, rfl⟩
    go_wp2_with fail
    go_ret
    exact ⟨rfl, HB1.out⟩
end Go.Proofs.YtcbnelklilamgaaDoor
