/- The walk of the law on hexadecimal strings: a string in digits is the string that Print writes. -/
import Derived.Test.YtenhaohooknkfaaDoorTokJnL
import Derived.Deep.DeepCutAuto
import Derived.Deep.CutBlock
namespace Go.Proofs.YtenhaohooknkfaaDoor
open Go.RowKit Tk
def digL (up : Bool) : ByteArray := if up then ⟨#[48, 49, 50, 51, 52, 53, 54, 55, 56, 57, 65, 66, 67, 68, 69, 70]⟩ else ⟨#[48, 49, 50, 51, 52, 53, 54, 55, 56, 57, 97, 98, 99, 100, 101, 102]⟩
def hexD (up : Bool) (k : Nat) : UInt8 := (bys (digL up)).getD k 0
def hexB (up : Bool) (x : UInt8) : Src := [hexD up (x.toNat / 16), 10, hexD up (x.toNat % 16)]
theorem hexD_ok (up : Bool) (x : UInt8) : white (hexD up (x.toNat / 16)) = false ∧ hexD up (x.toNat / 16) ≠ 62 ∧ hexV (hexD up (x.toNat / 16)) = some (x >>> 4) ∧ white (hexD up (x.toNat % 16)) = false ∧ hexV (hexD up (x.toNat % 16)) = some (x &&& 15) ∧ (x >>> 4) <<< 4 ||| (x &&& 15) = x := by
  have h := u8_all (fun x => (!white (hexD up (x.toNat / 16)) && (hexD up (x.toNat / 16) != 62) && (hexV (hexD up (x.toNat / 16)) == some (x >>> 4)) && !white (hexD up (x.toNat % 16)) && (hexV (hexD up (x.toNat % 16)) == some (x &&& 15)) && ((x >>> 4) <<< 4 ||| (x &&& 15) == x))) (by cases up <;> decide +kernel) x
  simp only [Bool.and_eq_true, Bool.not_eq_true', bne_iff_ne, beq_iff_eq] at h
  obtain ⟨⟨⟨⟨⟨h1, h2⟩, h3⟩, h4⟩, h5⟩, h6⟩ := h
  exact ⟨h1, h2, h3, h4, h5, h6⟩
theorem hexL_dig (up : Bool) : ∀ (s : Src) (hf : UInt8) (acc : Src) (n : Nat) (r : Src), acc.length + s.length ≤ 1024 → hexL hf false (s.flatMap (hexB up) ++ 62 :: r) acc n = .ok (acc ++ s, n + 3 * s.length + 1)
  | [], hf, acc, n, r, h => by
    show hexL hf false (62 :: r) acc n = _
    rw [hexL, if_neg (by decide), if_pos (by decide)]
    unfold limited
    rw [if_neg (by simp at h; omega)]
    simp
  | x :: s, hf, acc, n, r, h => by
    obtain ⟨h1, h2, h3, h4, h5, h6⟩ := hexD_ok up x
    rw [List.flatMap_cons, List.append_assoc]
    show hexL hf false (hexD up (x.toNat / 16) :: 10 :: hexD up (x.toNat % 16) :: (s.flatMap (hexB up) ++ 62 :: r)) acc n = _
    rw [hexL, if_neg (by rw [h1]; decide), if_neg (by simp [h2]), h3]
    dsimp only
    rw [if_neg (by decide), hexL, if_pos (by decide), hexL, if_neg (by rw [h4]; decide), if_neg (by simp), h5]
    dsimp only
    rw [if_pos rfl, h6, hexL_dig up s _ _ _ r (by rw [List.length_append, List.length_singleton]; simp at h; omega)]
    simp; omega
theorem hex_scan (up : Bool) (s : Src) (h : s.length ≤ 1024) : ∃ n, scan ([60, 32] ++ s.flatMap (hexB up) ++ [62]) = .ok [⟨⟨3, 0, s⟩, 0, n⟩] := by
  have hl : (s.flatMap (hexB up)).length = 3 * s.length := by
    induction s with
    | nil => rfl
    | cons x s ih => rw [List.flatMap_cons, List.length_append, ih (by simp at h; omega), List.length_cons]; show 3 + _ = _; omega
  have ho : one ([60, 32] ++ s.flatMap (hexB up) ++ [62]) = .ok (⟨3, 0, s⟩, 3 * s.length + 3) := by
    show one (60 :: 32 :: (s.flatMap (hexB up) ++ [62])) = _
    rw [one_60, if_neg (by simp)]
    show mapRes 3 (hexL 0 false (32 :: (s.flatMap (hexB up) ++ 62 :: [])) [] 0) = _
    rw [hexL, if_pos (by decide), hexL_dig up s 0 [] 1 [] (by simpa using h)]
    show Except.ok _ = _
    simp; omega
  obtain ⟨a, b, hO⟩ := one_own ho
  have hlen : ([60, 32] ++ s.flatMap (hexB up) ++ [62]).length = 3 * s.length + 3 + b.length := by rw [hO.eq, List.length_append, ← hO.len]
  have hb : b = [] := by
    have : b.length = 0 := by
      rw [List.length_append, List.length_append, hl] at hlen
      simp only [List.length_cons, List.length_nil] at hlen
      omega
    exact List.eq_nil_of_length_eq_zero this
  have ha : [60, 32] ++ s.flatMap (hexB up) ++ [62] = a := by rw [hO.eq, hb, List.append_nil]
  have h2 : Own (60 :: 32 :: (s.flatMap (hexB up) ++ [62])) ⟨3, 0, s⟩ (3 * s.length + 3) a b := hO
  exact ⟨_, by rw [ha]; exact scan_own (l := []) h2 ⟨by decide, by decide⟩ (by omega)⟩
theorem text_scan (s : Src) (h : s.length ≤ 1024) : ∃ us, scan (prTok ⟨3, 0, s⟩) = .ok us ∧ us.map (·.b) = [⟨3, 0, s⟩] := by
  have hv : ∀ t ∈ ([⟨3, 0, s⟩] : List BTok), VTok t := fun t ht => by
    rw [List.mem_singleton.1 ht]; exact VTok.text s h
  have e : joinL false [⟨3, 0, s⟩] = prTok ⟨3, 0, s⟩ := by
    rw [joinL, joinL, List.append_nil]; rfl
  have hl : (joinL false [⟨3, 0, s⟩]).length ≤ 8192 := by rw [e]; have := prTok_le (VTok.text s h); omega
  have := join_scan hv hl
  rwa [e] at this
theorem bys_app (A B : ByteArray) : bys (A ++ B) = bys A ++ bys B := by unfold bys; rw [ByteArray.data_append]; simp
theorem hexB_len (up : Bool) (s : Src) : (s.flatMap (hexB up)).length = 3 * s.length := by
  induction s with
  | nil => rfl
  | cons x s ih => rw [List.flatMap_cons, List.length_append, ih, List.length_cons]; show 3 + _ = _; omega
theorem dig_slice (up : Bool) (k : Nat) (hk : k < 16) : bys ((digL up).extract k (k + 1)) = [hexD up k] := by
  have h : ∀ i : Fin 16, bys ((digL up).extract i.val (i.val + 1)) = [hexD up i.val] := by cases up <;> decide +kernel
  exact h ⟨k, hk⟩
set_option maxRecDepth 100000 in
set_option maxHeartbeats 16000000 in
theorem hexp_law (S : ByteArray) (up : Bool) (w : World) (hS : S.size ≤ maxLen) (hT : Tab10 w) :
    Calls Tryd.prog 5 #[.string S, .bool up] w fun e w' => e = .returned (.bool true) ∧ Below w.heap.size w w' := by
  have HSc := Lib.hid fun S W => Scan_any S W
  have HHs := Lib.hid fun W => head_any S 1024 W hS (by omega)
  have hs4 : (S.extract 0 1024).size ≤ 1024 := by rw [← bys_len, bys_ext, List.length_take]; omega
  generalize S.extract 0 1024 = S1 at *
  have HT := Lib.hid hT
  have hdz : (digL up).size = 16 := by cases up <;> rfl
  clear hT hS
  go_enter Tryd.func5, Tryd.ntmps5
  go_wp2_with fail
  refine (scans_any w).mono ?_
  rintro e w1 ⟨rfl, hb1⟩
  have HB1 := Lib.hid hb1
  clear hb1
  go_wp2_with fail
  refine (HHs.out _).mono ?_
  rintro e w1' ⟨rfl, rfl⟩
  go_upto_if 20 with (fail)
  go_cut [5] (fun v5 wx => v5 = .string (digL up) ∧ wx = w1)
  case first =>
    cases up
    · go_wp2_with fail
      go_meet
      exact ⟨rfl, rfl⟩
    · go_wp2_with fail
      go_meet
      exact ⟨rfl, rfl⟩
  case rest =>
  obtain ⟨rfl, rfl⟩ := hcut
  generalize hD : digL up = D at *
  have HD := Lib.hid hD
  clear hD
  go_wp2_with fail
  have HH0 : Hid (bys ⟨#[60, 32]⟩ = [60, 32] ++ ((bys S1).take 0).flatMap (hexB up)) := rfl
  go_loopw [23, 6] (fun v23 v6 wq => True ∧ ∃ (k : Nat) (H : ByteArray), v23 = .int .i64 k ∧ v6 = .string H ∧ k ≤ S1.size ∧ Hid (bys H = [60, 32] ++ ((bys S1).take k).flatMap (hexB up)) ∧ H.size ≤ 2 + 3 * k ∧ Below w.heap.size w wq) (fun v23 _ _ => S1.size - (intOf v23).toNat)
  case atStart => exact ⟨trivial, 0, _, rfl, rfl, Nat.zero_le _, HH0.out, by decide, HB1.out⟩
  case round =>
    obtain ⟨-, k, H, rfl, rfl, hk, HH, hHz, hbl⟩ := hrel
    have HBl := Lib.hid hbl
    clear hbl
    by_cases hlt : k < S1.size
    · have hi1 : (k : Int) < (S1.size : Int) := by omega
      have hi0 : (0 : Int) ≤ (k : Int) := by omega
      have hxn := (bt_nn (S1[k]'hlt)).1
      have hxm := (bt_nn (S1[k]'hlt)).2
      unfold bt at hxn hxm
      have HTk := Lib.hid (take_byte S1 k hlt)
      have hxn2 := (S1[k]'hlt).toNat_lt
      have b1 : (0 : Int) ≤ ((S1[k]'hlt).toNat : Int) / 16 := by omega
      have b2 : ((S1[k]'hlt).toNat : Int) / 16 ≤ ((S1[k]'hlt).toNat : Int) / 16 + 1 := by omega
      have b3 : ((S1[k]'hlt).toNat : Int) / 16 + 1 ≤ (D.size : Int) := by omega
      have b4 : (0 : Int) ≤ ((S1[k]'hlt).toNat : Int) / 16 + 1 := by omega
      have c1 : (0 : Int) ≤ ((S1[k]'hlt).toNat : Int) % 16 := by omega
      have c2 : ((S1[k]'hlt).toNat : Int) % 16 ≤ ((S1[k]'hlt).toNat : Int) % 16 + 1 := by omega
      have c3 : ((S1[k]'hlt).toNat : Int) % 16 + 1 ≤ (D.size : Int) := by omega
      have c4 : (0 : Int) ≤ ((S1[k]'hlt).toNat : Int) % 16 + 1 := by omega
      have e1 : (((S1[k]'hlt).toNat : Int) / 16 + 1) % 256 = ((S1[k]'hlt).toNat : Int) / 16 + 1 := by omega
      have e2 : (((S1[k]'hlt).toNat : Int) % 16 + 1) % 256 = ((S1[k]'hlt).toNat : Int) % 16 + 1 := by omega
      go_wp2_with fail
      go_quiet (fail)
      have HE : Hid (∀ (A : ByteArray), A = H ++ (D.extract ((S1[k]'hlt).toNat / 16) ((S1[k]'hlt).toNat / 16 + 1) ++ ⟨#[10]⟩ ++ D.extract ((S1[k]'hlt).toNat % 16) ((S1[k]'hlt).toNat % 16 + 1)) → bys A = [60, 32] ++ ((bys S1).take (k + 1)).flatMap (hexB up)) := fun A hA => by
        rw [hA, bys_app, bys_app, bys_app, HH.out, ← HD.out, dig_slice up _ (by omega), dig_slice up _ (by omega), HTk.out, List.flatMap_append]
        simp [hexB, bys]
      have HZ : Hid (∀ (A : ByteArray), bys A = [60, 32] ++ ((bys S1).take (k + 1)).flatMap (hexB up) → A.size ≤ 2 + 3 * (k + 1)) := fun A hA => by
        rw [← bys_len, hA, List.length_append, hexB_len, List.length_take]
        simp only [List.length_cons, List.length_nil]; omega
      go_wp2_with fail
      exact ⟨⟨trivial, k + 1, _, rfl, rfl, by omega, HE.out _ rfl, HZ.out _ (HE.out _ rfl), below_drewN HBl.out _⟩, by simp [intOf]; omega⟩
    · have hk2 : k = S1.size := by omega
      have hi2 : ¬ (k : Int) < (S1.size : Int) := by omega
      have hH : bys H = [60, 32] ++ (bys S1).flatMap (hexB up) := by
        rw [HH.out, List.take_of_length_le (by rw [bys_len]; omega)]
      obtain ⟨n1, hx1⟩ := hex_scan up (bys S1) (by rw [bys_len]; exact hs4)
      obtain ⟨us, hu1, hu2⟩ := text_scan (bys S1) (by rw [bys_len]; exact hs4)
      have hsc1 : scan (bys (H ++ ⟨#[62]⟩)) = .ok [⟨⟨3, 0, bys S1⟩, 0, n1⟩] := by rw [bys_app, hH]; exact hx1
      have HSc1 := Lib.hid hsc1
      have hS1 : (⟨(bys S1).toArray⟩ : ByteArray) = S1 := by unfold bys; simp
      have HPr : Hid (∀ W, Below w.heap.size w W → Calls Tryd.prog 13 #[.agg #[.int .i64 3, .int .i64 0, .string S1, .int .i64 0, .int .i64 0]] W fun r w' => r = .returned (.tuple #[.string ⟨(prTok ⟨3, 0, bys S1⟩).toArray⟩, .int .i64 0]) ∧ Below W.heap.size W w') := fun W hb => by
        have := print_ok ⟨3, 0, bys S1⟩ (VTok.text _ (by rw [bys_len]; exact hs4)) 0 0 W (HT.out.later hb)
        unfold tokV at this
        dsimp only at this
        rw [hS1] at this
        exact this
      obtain ⟨P, hP⟩ : ∃ P : ByteArray, P = ⟨(prTok ⟨3, 0, bys S1⟩).toArray⟩ := ⟨_, rfl⟩
      rw [← hP] at HPr
      have hbp : bys P = prTok ⟨3, 0, bys S1⟩ := by rw [hP, int_bys]
      have HSc2 : Hid (scan (bys P) = .ok us) := by unfold Hid; rw [hbp]; exact hu1
      have HU2 := Lib.hid hu2
      have HS1 := Lib.hid hS1
      have hHb : H.size ≤ 10000 := by omega
      clear hlt hk2 hH hx1 hu1 hu2 hsc1 hS1 hP hbp
      go_wp2_with fail
      refine (HSc.out _ wr).mono ?_
      rintro e w2 hp2
      rw [HSc1.out] at hp2
      obtain ⟨hb2, va, rfl, hoa⟩ := hp2
      obtain ⟨ga, ca, rfl, -, -⟩ := hoa.form (by simp)
      have HB2 := Lib.hid (HBl.out.trans (hb2.mono HBl.out.size))
      have HOa := Lib.hid hoa
      clear hb2 hoa
      simp only [List.length_cons, List.length_nil] at *
      go_wp2_with fail
      refine (HPr.out _ HB2.out).mono ?_
      rintro e w3 ⟨rfl, hb3⟩
      have HB3 := Lib.hid (HB2.out.trans (hb3.mono HB2.out.size))
      have HOa3 := Lib.hid (own_below HOa.out hb3)
      clear hb3
      go_wp2_with fail
      refine (HSc.out _ w3).mono ?_
      rintro e w4 hp4
      rw [HSc2.out] at hp4
      obtain ⟨hb4, vb, rfl, hob⟩ := hp4
      have HB4 := Lib.hid (HB3.out.trans (hb4.mono HB3.out.size))
      have hoa4 := own_below HOa3.out hb4
      have HSm := Lib.hid (same_toks _ _ [⟨⟨3, 0, bys S1⟩, 0, n1⟩] us _ _ w4 hoa4 hob (by simp) HU2.out.symm)
      obtain ⟨s0, -, s2, -, -⟩ := toks_cells hoa4 0 (by simp)
      have hga := (own_lt hoa4 ga rfl).2
      simp at s0 s2
      rw [HS1.out] at s2
      obtain ⟨Ab, cb, rfl⟩ := own_n hob
      clear hb4 hoa4 hob
      go_wp2_with fail
      refine HSm.out.mono ?_
      rintro e w5 ⟨rfl, hb5⟩
      have HB5 := Lib.hid (HB4.out.trans (hb5.mono HB4.out.size))
      clear hb5
      go_wp2_with fail
      go_ret
      exact ⟨rfl, HB5.out⟩
end Go.Proofs.YtenhaohooknkfaaDoor
