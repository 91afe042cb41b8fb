/- The walk of Decode. -/
import Derived.Test.YtefkglmdkjkbiaaDoorFntPush2
import Derived.Test.YtefkglmdkjkbiaaDoorFntEnc
import Derived.Test.YtefkglmdkjkbiaaDoorFntHp
import Derived.Deep.DeepCutAuto
import Derived.Deep.CutBlock
namespace Go.Proofs.YtefkglmdkjkbiaaDoor
open Go.RowKit Fnt
def zeroF : Font := ⟨0, [], [], []⟩
def fontB : ByteArray := ⟨#[102, 111, 110, 116]⟩
def trimB (s : ByteArray) : ByteArray := if hasP s fontB then s.extract fontB.size s.size else s
def decU (s : ByteArray) : Up := ⟨(trimB s).data.toList, false⟩
/-- What Decode answers. -/
def dec (s : ByteArray) : Font × Int := if 4096 < s.size then (zeroF, 2) else if rdBad (decU s) = true ∨ checkE (rdFont (decU s)) ≠ 0 ∨ Fnt.written (rdFont (decU s)) ≠ s.data.toList then (zeroF, 4) else (rdFont (decU s), 0)
def DecPost (s : ByteArray) (w : World) (e : Ending) (w' : World) : Prop :=
  ∃ v, e = .returned (.tuple #[v, .int .i64 (dec s).2]) ∧ FntV w' (fun k => w.heap.size ≤ k) v (dec s).1 ∧ Below w.heap.size w w'
theorem zero_fnt (w : World) (ok : Nat → Prop) : FntV w ok (.agg #[.int .i64 0, .slice none 0 0, .slice none 0 0, .slice none 0 0]) zeroF :=
  ⟨_, _, _, rfl, ⟨fun _ => (.nilIface, .nilIface), SlM.nil _ _, fun i hi => absurd hi (by simp [zeroF])⟩, SlM.nil _ _, SlM.nil _ _⟩
theorem trim_le (s : ByteArray) : (trimB s).data.toList.length ≤ s.size := by
  rw [Array.length_toList]
  show (trimB s).size ≤ s.size
  unfold trimB
  split
  · rw [ByteArray.size_extract]; omega
  · exact Nat.le_refl _
set_option maxRecDepth 100000 in
set_option maxHeartbeats 8000000 in
theorem decode_large (s : ByteArray) (w : World) (hl : 4096 < s.size) : Calls Tryd.prog 14 #[.string s] w (DecPost s w) := by
  have HP : Hid (∀ w', Below w.heap.size w w' → DecPost s w (.returned (.tuple #[.agg #[.int .i64 0, .slice none 0 0, .slice none 0 0, .slice none 0 0], .int .i64 2])) w') := fun w' h => by
    have e : dec s = (zeroF, 2) := by unfold dec; rw [if_pos hl]
    unfold DecPost; rw [e]
    exact ⟨_, rfl, zero_fnt _ _, h⟩
  generalize DecPost s w = Q at *
  go_enter Tryd.func14, Tryd.ntmps14
  go_wp2
  refine bodyPost_ret (v := .tuple #[.agg #[.int .i64 0, .slice none 0 0, .slice none 0 0, .slice none 0 0], .int .i64 2]) (by simp [results, Tryd.results14, go_sem]) rfl (HP.out _ ?_)
  exact (Below.refl _ _).alloc (Nat.le_refl _) _
theorem eGl : ElemK Tryd.prog 22 84 (.agg #[.int .i64 0, .slice none 0 0, .slice none 0 0]) 3 56 := ElemK.mk_ Tryd.underlying22 (by kernel_rfl) rfl
theorem eRg : ElemK Tryd.prog 23 49 (.agg #[.int .i64 0, .int .i64 0, .int .i64 0]) 3 24 := ElemK.mk_ Tryd.underlying23 (by kernel_rfl) rfl
theorem eKp : ElemK Tryd.prog 24 35 (.agg #[.int .i64 0, .int .i64 0, .int .i64 0]) 3 24 := ElemK.mk_ Tryd.underlying24 (by kernel_rfl) rfl
set_option maxRecDepth 100000 in
set_option maxHeartbeats 16000000 in
theorem decode_any (s : ByteArray) (w : World) (hl : s.size ≤ 4096) (hT : Tab w) (h0 : 0 < w.heap.size) : Calls Tryd.prog 14 #[.string s] w (DecPost s w) := by
  have HTw : Hid (∀ ww, Below w.heap.size w ww → Tab ww) := fun ww hb i hi => (hb.cell (p := ⟨0, i, none⟩) h0).trans (hT i hi)
  have hul : (decU s).s.length ≤ 4096 := Nat.le_trans (trim_le s) hl
  have HD : Hid (dec s = if rdBad (decU s) = true ∨ checkE (rdFont (decU s)) ≠ 0 ∨ Fnt.written (rdFont (decU s)) ≠ s.data.toList then (zeroF, 4) else (rdFont (decU s), 0)) := by
    unfold Hid dec; rw [if_neg (by omega)]
  have HTr : Hid (∀ W, Calls Tryd.prog 38 #[.string s, .string fontB] W fun e w' => e = .returned (.string ⟨(decU s).s.toArray⟩) ∧ W = w') := fun W => by
    have h := trimP38 s fontB W
    have e : (⟨(decU s).s.toArray⟩ : ByteArray) = (if hasP s fontB then s.extract fontB.size s.size else s) := by
      show (⟨(trimB s).data.toList.toArray⟩ : ByteArray) = trimB s
      apply ByteArray.ext; simp
    rw [e]; exact h
  unfold fontB at HTr
  have HPost : Hid (∀ v w', FntV w' (fun k => w.heap.size ≤ k) v (dec s).1 → Below w.heap.size w w' → DecPost s w (.returned (.tuple #[v, .int .i64 (dec s).2])) w') := fun v w' h1 h2 => ⟨v, rfl, h1, h2⟩
  generalize DecPost s w = Q at *
  generalize hu : decU s = u at *
  have hubad : u.bad = false := by rw [← hu]; rfl
  obtain ⟨us, ub⟩ := u
  dsimp only at hubad hul
  subst hubad
  have HU := Lib.hid hu
  clear hu hT
  have hl2 : ¬ 4096 < s.size := by omega
  go_enter Tryd.func14, Tryd.ntmps14
  go_wp2_with fail
  refine (HTr.out _).mono ?_
  rintro e wq ⟨rfl, rfl⟩
  have hr1 := Blk.new w 26 #[.int .i64 0, .slice none 0 0, .slice none 0 0, .slice none 0 0]
  have hb1 := (FrS.refl w.heap.size (fun _ => False) w).alloc (Nat.le_refl _) (.cells #[.int .i64 0, .slice none 0 0, .slice none 0 0, .slice none 0 0] 26)
  have hz1 : Hid ((w.alloc (.cells #[.int .i64 0, .slice none 0 0, .slice none 0 0, .slice none 0 0] 26)).heap.size = w.heap.size + 1) := by unfold Hid; simp
  generalize w.alloc (.cells #[.int .i64 0, .slice none 0 0, .slice none 0 0, .slice none 0 0] 26) = w1 at *
  have HR1 := Lib.hid hr1
  have HB1 := Lib.hid hb1
  have hz2 : Hid ((w1.alloc (.cells #[.string ⟨us.toArray⟩, .bool false] 91)).heap.size = w.heap.size + 2) := by unfold Hid; simp [hz1.out]
  have hm2 : UpM (w1.alloc (.cells #[.string ⟨us.toArray⟩, .bool false] 91)) (w.heap.size + 1) ⟨us, false⟩ := by
    have := Blk.new w1 91 #[.string ⟨us.toArray⟩, .bool false]
    rw [hz1.out] at this; exact this
  have HG2 := Lib.hid (get_any 2 ⟨us, false⟩ (w.heap.size + 1) _ hm2 (by dsimp only; omega) (by omega))
  rw [show ((2 : Nat) : Int) = 2 from rfl] at HG2
  have hf2 := (HB1.out.weak (Nat.le_refl _) fun _ _ h => h).alloc (S := fun _ => False) (by rw [hz1.out]; omega) (.cells #[.string ⟨us.toArray⟩, .bool false] 91)
  have HR2 := Lib.hid (HR1.out.alloc (.cells #[.string ⟨us.toArray⟩, .bool false] 91))
  have HF2 := Lib.hid hf2
  have hw1s := hz1.out
  clear hr1 hb1 hm2 hf2
  generalize hw2 : w1.alloc (.cells #[.string ⟨us.toArray⟩, .bool false] 91) = w2 at *
  have HW2 := Lib.hid hw2
  clear hw2
  go_wp2_with fail
  rw [HW2.out]
  refine HG2.out.mono ?_
  rintro e w3 ⟨rfl, hm3, hf3⟩
  have hz3 : Hid (w3.heap.size = w.heap.size + 2) := by unfold Hid; rw [hf3.size]; exact hz2.out
  have HR3 := Lib.hid ((FrS.of1 (R := w.heap.size + 2) (S := fun k => k = w.heap.size + 1) hf3 rfl).blk HR2.out (by omega) (by omega))
  have HF3 : Hid (FrS w.heap.size (fun _ => False) w w3) := HF2.out.trans ((FrS.of1 (R := w.heap.size) (S := fun k => k = w.heap.size + 1) hf3 rfl).weak (Nat.le_refl _) fun k hk h => by omega)
  have hunit : (rdFont ⟨us, false⟩).unit = getV 2 ⟨us, false⟩ := rfl
  have HUn := Lib.hid hunit
  generalize getV 2 ⟨us, false⟩ = unit at *
  have hul1 : (u1 ⟨us, false⟩).s.length ≤ 4096 := Nat.le_trans (getU_len _ _) hul
  have hul2 : (u2 ⟨us, false⟩).s.length ≤ 4096 := Nat.le_trans (getU_len _ _) hul1
  have hul3 : (u3 ⟨us, false⟩).s.length ≤ 4096 := Nat.le_trans (getU_len _ _) hul2
  have hul4 : (u4 ⟨us, false⟩).s.length ≤ 4096 := Nat.le_trans (getU_len _ _) hul3
  have hulG : (uG ⟨us, false⟩).s.length ≤ 4096 := Nat.le_trans (getU_len _ _) hul4
  have hm4 : UpM (w3.alloc (.cells #[.int .i64 unit, .slice none 0 0, .slice none 0 0, .slice none 0 0] 26)) (w.heap.size + 1) (u1 ⟨us, false⟩) := Blk.alloc hm3 _
  have hk4 := Blk.new w3 26 #[.int .i64 unit, .slice none 0 0, .slice none 0 0, .slice none 0 0]
  rw [hz3.out] at hk4
  have HR4 := Lib.hid (HR3.out.alloc (.cells #[.int .i64 unit, .slice none 0 0, .slice none 0 0, .slice none 0 0] 26))
  have HF4 := Lib.hid (HF3.out.alloc (by rw [hz3.out]; omega) (.cells #[.int .i64 unit, .slice none 0 0, .slice none 0 0, .slice none 0 0] 26))
  have hz4 : Hid ((w3.alloc (.cells #[.int .i64 unit, .slice none 0 0, .slice none 0 0, .slice none 0 0] 26)).heap.size = w.heap.size + 3) := by unfold Hid; simp [hz3.out]
  have hw3s := hz3.out
  clear hm3 hf3 hunit hw1s
  generalize hw4 : w3.alloc (.cells #[.int .i64 unit, .slice none 0 0, .slice none 0 0, .slice none 0 0] 26) = w4 at *
  have HW4 := Lib.hid hw4
  have HK4 := Lib.hid hk4
  have HG5 := Lib.hid (get_any 1 _ _ _ hm4 (by omega) (by omega))
  clear hw4 hk4 hm4
  rw [show ((1 : Nat) : Int) = 1 from rfl] at HG5
  go_wp2_with fail
  rw [HW4.out]
  refine HG5.out.mono ?_
  rintro e w5 ⟨rfl, hm5, hf5⟩
  have HG6 := Lib.hid (get_any 1 (u2 ⟨us, false⟩) _ _ hm5 (by omega) (by omega))
  have HF5 := Lib.hid hf5
  clear hm5 hf5 hw3s
  rw [show ((1 : Nat) : Int) = 1 from rfl] at HG6
  go_wp2_with fail
  refine HG6.out.mono ?_
  rintro e w6 ⟨rfl, hm6, hf6⟩
  have HG7 := Lib.hid (get_any 1 (u3 ⟨us, false⟩) _ _ hm6 (by omega) (by omega))
  have HF6 := Lib.hid hf6
  clear hm6 hf6
  rw [show ((1 : Nat) : Int) = 1 from rfl] at HG7
  go_wp2_with fail
  refine HG7.out.mono ?_
  rintro e w7 ⟨rfl, hm7, hf7⟩
  have HG8 := Lib.hid (get_any 6 (u4 ⟨us, false⟩) _ _ hm7 (by omega) (by omega))
  have HF7 := Lib.hid hf7
  clear hm7 hf7
  rw [show ((6 : Nat) : Int) = 6 from rfl] at HG8
  have hn1 := getV1 (u1 ⟨us, false⟩)
  have hn2 := getV1 (u2 ⟨us, false⟩)
  have hn3 := getV1 (u3 ⟨us, false⟩)
  obtain ⟨nG, hnG⟩ : ∃ n : Nat, getV 1 (u1 ⟨us, false⟩) = (n : Int) := ⟨_, (Int.toNat_of_nonneg hn1.1).symm⟩
  obtain ⟨nM, hnM⟩ : ∃ n : Nat, getV 1 (u2 ⟨us, false⟩) = (n : Int) := ⟨_, (Int.toNat_of_nonneg hn2.1).symm⟩
  obtain ⟨nK, hnK⟩ : ∃ n : Nat, getV 1 (u3 ⟨us, false⟩) = (n : Int) := ⟨_, (Int.toNat_of_nonneg hn3.1).symm⟩
  rw [hnG, hnM, hnK]
  rw [hnG] at hn1
  rw [hnM] at hn2
  rw [hnK] at hn3
  have HRG : Hid (rG ⟨us, false⟩ = rdGls nG (uG ⟨us, false⟩)) := by unfold Hid rG; rw [hnG, Int.toNat_natCast]
  have HRM : Hid (rM ⟨us, false⟩ = rdRgs nM (getU 6 (rG ⟨us, false⟩).2)) := by unfold Hid rM; rw [hnM, Int.toNat_natCast]
  have HRK : Hid (rK ⟨us, false⟩ = rdKps nK (getU 6 (rM ⟨us, false⟩).2)) := by unfold Hid rK; rw [hnK, Int.toNat_natCast]
  have hnG255 : nG ≤ 255 := by omega
  have hnM255 : nM ≤ 255 := by omega
  have hnK255 : nK ≤ 255 := by omega
  clear hn1 hn2 hn3 hnG hnM hnK hul1 hul2 hul3 hul4
  go_wp2_with fail
  refine HG8.out.mono ?_
  rintro e w8 ⟨rfl, hm8, hf8⟩
  have hf48 := ((HF5.out.trans HF6.out).trans HF7.out).trans hf8
  have hz8 : w8.heap.size = w.heap.size + 3 := hf48.size.trans hz4.out
  have HZ8 := Lib.hid hz8
  have hk8 := (FrS.of1 (R := w.heap.size + 3) (S := fun k => k = w.heap.size + 1) hf48 rfl).blk HK4.out (by omega) (by omega)
  have hr8 := (FrS.of1 (R := w.heap.size + 3) (S := fun k => k = w.heap.size + 1) hf48 rfl).blk HR4.out (by omega) (by omega)
  have HF8 : Hid (FrS w.heap.size (fun _ => False) w w8) := HF4.out.trans ((FrS.of1 (R := w.heap.size) (S := fun k => k = w.heap.size + 1) hf48 rfl).weak (Nat.le_refl _) fun k hk h => by omega)
  have HM8 : Hid (UpM w8 (w.heap.size + 1) (uG ⟨us, false⟩)) := hm8
  have HK8 := Lib.hid hk8
  have HR8 := Lib.hid hr8
  have HFo : Hid (rdFont ⟨us, false⟩ = ⟨unit, (rG ⟨us, false⟩).1, (rM ⟨us, false⟩).1, (rK ⟨us, false⟩).1⟩) := by rw [← HUn.out]; rfl
  have HBa : Hid (rdBad ⟨us, false⟩ = (rK ⟨us, false⟩).2.bad) := rfl
  generalize rG ⟨us, false⟩ = RG at *
  generalize rM ⟨us, false⟩ = RM at *
  generalize rK ⟨us, false⟩ = RK at *
  generalize uG ⟨us, false⟩ = ug at *
  have hz8' : w.heap.size + 3 ≤ w8.heap.size := by omega
  clear hm8 hf8 hf48 hk8 hr8 hz8 HF5 HF6 HF7 HF4 HF3 HF2 HB1 HR1 HR2 HR3 HR4 HK4 HG5 HG6 HG7 HG8 HG2 HW2 HW4
  go_upto_block 0 with (fail)
  go_cut [6] (fun _ wx => ∃ (L : List GlB) (gv : Value) (up : Up), rdGls nG ug = (L.map (·.1), up) ∧ L.length ≤ 255 ∧ up.s.length ≤ 4096 ∧ UpM wx (w.heap.size + 1) up ∧
    Blk wx (w.heap.size + 2) 26 #[.int .i64 unit, gv, .slice none 0 0, .slice none 0 0] ∧ GlR wx w8.heap.size gv L ∧ w8.heap.size ≤ wx.heap.size ∧ FrS w8.heap.size (fun k => k = w.heap.size + 1 ∨ k = w.heap.size + 2) w8 wx)
  case first =>
    go_wp2_with fail
    go_loopw [6] (fun vi wr => ∃ (m : Nat) (L : List GlB) (gv : Value) (up : Up), vi = .int .i64 m ∧ L.length + m ≤ 255 ∧ rdGls nG ug = (L.map (·.1) ++ (rdGls m up).1, (rdGls m up).2) ∧ up.s.length ≤ 4096 ∧ UpM wr (w.heap.size + 1) up ∧
      Blk wr (w.heap.size + 2) 26 #[.int .i64 unit, gv, .slice none 0 0, .slice none 0 0] ∧ GlR wr w8.heap.size gv L ∧ w8.heap.size ≤ wr.heap.size ∧ FrS w8.heap.size (fun k => k = w.heap.size + 1 ∨ k = w.heap.size + 2) w8 wr) (fun i _ => (intOf i).toNat)
    case atStart => exact ⟨nG, [], .slice none 0 0, ug, rfl, by simpa using hnG255, by simp, hulG, HM8.out, HK8.out, GlR.nil _ _, Nat.le_refl _, FrS.refl _ _ _⟩
    case round =>
      obtain ⟨m, L, gv, up, rfl, ham, hrd, hup, hum, hgk, hgr, hsz, hfr⟩ := hrel
      have HRd := Lib.hid hrd
      have HUm := Lib.hid hum
      have HGk := Lib.hid hgk
      have HGr := Lib.hid hgr
      have HFr := Lib.hid hfr
      have c1 := hum.cell 1
      simp only [List.getElem?_toArray, List.getElem?_cons_zero, List.getElem?_cons_succ] at c1
      obtain ⟨Ag, cg, rfl⟩ := own_form hgr.1
      by_cases hend : m = 0 ∨ up.bad = true
      · have hrd0 : rdGls m up = ([], up) := by
          rcases hend with rfl | hb
          · rfl
          · cases m with
            | zero => rfl
            | succ m => unfold rdGls; rw [if_pos hb]
        have HEn : Hid (rdGls nG ug = (L.map (·.1), up)) := by unfold Hid; rw [HRd.out, hrd0, List.append_nil]
        have hcase : m = 0 ∨ (0 < m ∧ up.bad = true) := by
          rcases hend with h | h
          · exact .inl h
          · rcases Nat.eq_zero_or_pos m with h2 | h2
            · exact .inl h2
            · exact .inr ⟨h2, h⟩
        have hL255 : L.length ≤ 255 := by omega
        clear hend hrd0 hrd hum hgk hgr hfr
        rcases hcase with hk0 | ⟨hkp, hb⟩
        all_goals try subst hk0
        all_goals try (rw [hb] at c1; clear hb)
        all_goals
          go_wp2_with fail
          go_meet
          exact ⟨L, _, up, HEn.out, hL255, hup, HUm.out, HGk.out, HGr.out, hsz, HFr.out⟩
      · obtain ⟨q, rfl⟩ : ∃ q, m = q + 1 := ⟨m - 1, by omega⟩
        have hbad : up.bad = false := by cases h : up.bad with
          | false => rfl
          | true => exact absurd (.inr h) hend
        have HSt : Hid (rdGls (q + 1) up = ((rdGl up).1 :: (rdGls q (rdGl up).2).1, (rdGls q (rdGl up).2).2)) := by unfold Hid; rw [rdGls, if_neg (by rw [hbad]; decide)]
        rw [hbad] at c1
        have HCl := Lib.hid fun W (h : UpM W (w.heap.size + 1) up) => rdGl_any up (w.heap.size + 1) W h (by omega)
        have hlr : w.heap.size + 2 < wr.heap.size := hgk.lt
        have g1 := hgk.cell 1
        have g1f := hgk.frozen 1
        simp only [List.getElem?_toArray, List.getElem?_cons_zero, List.getElem?_cons_succ] at g1
        have hS0 : (fun w' : World => w'.cell? ⟨w.heap.size + 2, 1, none⟩ = some (.slice Ag L.length cg)) wr.drew := g1
        have HEnd : Hid True := trivial
        clear hrd hum hgk hgr hfr hend hbad
        go_wp2
        refine wp_region_tail (fun w' => w'.cell? ⟨w.heap.size + 2, 1, none⟩ = some (.slice Ag L.length cg)) 4 (by kernel_rfl) (by kernel_rfl) hS0 (fun hHeld => ?_)
        refine wpAnyD_take 0 (v := ?_) rfl (by kernel_rfl) (by kernel_rfl) (by kernel_rfl) (fun _ _ _ h => h) hHeld (Or.inl ⟨by rfl, ?_⟩) ?_
        rotate_left
        · intro w' hw'; go_simp; try with_reducible rfl
        try simp only [Act.put, List.setIfInBounds_toArray, List.set_cons_zero, List.set_cons_succ]
        refine wpAnyD_take 1 (v := ?_) rfl (by kernel_rfl) (by kernel_rfl) (by kernel_rfl) (fun _ _ _ h => h) hHeld (Or.inl ⟨by rfl, ?_⟩) ?_
        rotate_left
        · intro w' hw'; go_simp; try with_reducible rfl
        try simp only [Act.put, List.setIfInBounds_toArray, List.set_cons_zero, List.set_cons_succ]
        refine wpAnyD_ready [2] (by kernel_rfl) ?_
        refine AllReadyD.cons rfl (fun K hK => ?_) AllReadyD.nil
        go_simp
        refine (HCl.out wr.drew HUm.out).mono ?_
        rintro e w9 ⟨cv, pv, rfl, hcv, hpv, hm9, hl9, hf9⟩
        obtain ⟨Ac, cc, rfl, _, _⟩ := hcv.form
        obtain ⟨Ap, cp, rfl, _, _⟩ := hpv.form
        have hg9 : (fun w' : World => w'.cell? ⟨w.heap.size + 2, 1, none⟩ = some (.slice Ag L.length cg)) w9 := ((hf9.blk HGk.out HGk.out.lt (by omega)).cell 1).trans rfl
        refine hK.out _ _ hg9 (fun hHeld => ?_)
        refine wpAnyD_ready [3] (by kernel_rfl) ?_
        refine AllReadyD.cons rfl (fun K hK => ?_) AllReadyD.nil
        go_simp
        have hg10 : (fun w' : World => w'.cell? ⟨w.heap.size + 2, 1, none⟩ = some (.slice Ag L.length cg)) (w9.alloc (.cells #[.int .i64 (rdGl up).1.adv, .slice Ac (rdGl up).1.cs.length cc, .slice Ap (rdGl up).1.ps.length cp] 84)) := (((hf9.blk HGk.out HGk.out.lt (by omega)).alloc _).cell 1).trans rfl
        refine hK.out _ _ hg10 (fun hHeld => ?_)
        refine wpAnyD_done (by kernel_rfl) ?_
        simp only [List.drop_succ_cons, List.drop_zero]
        have hfd : FrS wr.heap.size (fun k => k = w.heap.size + 1) wr w9 := ⟨hf9.os, hf9.tape, hf9.output, hf9.size, hf9.block⟩
        have HF9 := Lib.hid hfd
        have HCv : Hid (Cons w9 (fun k => wr.heap.size ≤ k) (.slice Ac (rdGl up).1.cs.length cc) (rdGl up).1.cs) := hcv
        have HPv : Hid (Pas w9 (fun k => wr.heap.size ≤ k) (.slice Ap (rdGl up).1.ps.length cp) (rdGl up).1.ps) := hpv
        have HM9 := Lib.hid hm9
        have hl9' := Nat.le_trans hl9 hup
        have hgk9 := hfd.blk HGk.out HGk.out.lt (by omega)
        have hw9 := hfd.size
        have HGl9 := HGr.out.fr hfd (Nat.le_refl _) (fun k hk => by omega)
        have HG9 := Lib.hid HGl9.1
        have HGk9 := Lib.hid hgk9
        have HOl : Hid (∀ k, (Value.slice Ag L.length cg).ownBlock = some k → w8.heap.size ≤ k) := fun k hk => (own_lt HGl9.1 k hk).1
        have hs8 : w8.heap.size ≤ w9.heap.size := Nat.le_trans hsz hw9
        clear hg9 hg10 hHeld hcv hpv hm9 hf9 hl9 hfd hgk9 HGl9 hK hS0
        generalize hgl : (rdGl up).1 = G at *
        generalize hup2 : (rdGl up).2 = up2 at *
        have HGe := Lib.hid hgl
        have HUe := Lib.hid hup2
        clear hgl hup2
        go_wp2_with (at_builtin; go_must (refine wpList_pushk eGl rfl (.tmp 36) (.tmp 38) rfl w8.heap.size (.slice Ag L.length cg) L.length _ rfl (HG9.out.alloc _) ⟨w9.heap.size, 0, none⟩ 1 [.int .i64 G.adv, .slice Ac G.cs.length cc, .slice Ap G.ps.length cp] rfl rfl (news_new _ _ _ _ rfl) (by simp [Value.oneCell']) (by omega) (by omega) (by omega) (by simp; omega) ?_); go_must (intro v' w11 hown11 hgr11 hk11; have HO11 := Lib.hid hown11; have HK11 := Lib.hid hk11; have HGr11 := Lib.hid hgr11; have hgk := ((HGk9.out.alloc (.cells #[.int .i64 G.adv, .slice Ac G.cs.length cc, .slice Ap G.ps.length cp] 84)).grown hgr11 (fun e => by have := HOl.out _ e.symm; omega)); have h1 := hgk.cell 1; have h1f := hgk.frozen 1; simp at h1; obtain ⟨A11, c11, rfl⟩ := own_form hown11; have HGk2 := Lib.hid (hgk.put 1 (.slice A11 (L.length + 1) c11)); clear hown11 hgr11 hk11 hgk))
        go_roundw
        case rel =>
          refine ⟨q, L ++ [(G, .slice Ac G.cs.length cc, .slice Ap G.ps.length cp)], .slice A11 (L.length + 1) c11, up2, by go_num, by simp; omega, ?_, hl9', ?_, ?_, ?_, ?_, ?_⟩
          · rw [HRd.out, HSt.out]; simp
          · exact ((Blk.alloc (show Blk w9 (w.heap.size + 1) _ _ from HM9.out) _).grown HGr11.out (fun e => by have := HOl.out _ e.symm; omega)).far (p := ⟨w.heap.size + 2, 1, none⟩) (by show w.heap.size + 1 ≠ w.heap.size + 2; omega) _
          · have := HGk2.out; simpa using this
          · have hpu := GlR.push (b := (G, .slice Ac G.cs.length cc, .slice Ap G.ps.length cp)) HGr.out hsz HF9.out (fun k hk => by omega) HCv.out HPv.out (by have := HO11.out; simpa [glf] using this) HGr11.out HK11.out
            exact hpu.fr (R := w11.heap.size) (S := fun k => k = w.heap.size + 2) ((FrS.refl w11.heap.size (fun k => k = w.heap.size + 2) w11).put (p := ⟨w.heap.size + 2, 1, none⟩) (.inr rfl) _) (Nat.le_refl _) (fun k hk => by omega)
          · have := HGr11.out.size; simp only [World.setCell]; simp at this ⊢; omega
          · exact ((((HFr.out.trans (HF9.out.weak hsz fun k _ h => .inl h)).alloc hs8 _).grown HGr11.out (Nat.le_trans hs8 (by simp)) fun k hk => .inl (HOl.out k hk)).put (p := ⟨w.heap.size + 2, 1, none⟩) (.inr (.inr rfl)) _)
        case measure => simp [intOf]
  case rest =>
    obtain ⟨L, gv, up, hrd, hL255, hup, hum, hgk, hgr, hsz, hfr⟩ := hcut
    obtain ⟨Ag, cg, rfl⟩ := own_form hgr.1
    obtain rfl : RG = (L.map (·.1), up) := HRG.out.trans hrd
    have HGd := Lib.hid (get_any 6 up (w.heap.size + 1) wc hum (by omega) (by omega))
    rw [show ((6 : Nat) : Int) = 6 from rfl] at HGd
    have huM : (getU 6 up).s.length ≤ 4096 := Nat.le_trans (getU_len _ _) hup
    have HGk := Lib.hid hgk
    have HGr := Lib.hid hgr
    have HFr := Lib.hid hfr
    clear hum hgk hgr hfr hrd
    go_wp2_with fail
    refine HGd.out.mono ?_
    rintro e wd ⟨rfl, hmd, hfd⟩
    have hzd : wd.heap.size = wc.heap.size := hfd.size
    have hfd' := FrS.of1 (R := wc.heap.size) (S := fun k => k = w.heap.size + 1) hfd rfl
    have HMd := Lib.hid hmd
    have HKd := Lib.hid (hfd'.blk HGk.out HGk.out.lt (by omega))
    have HGrd := Lib.hid (HGr.out.fr hfd' (Nat.le_refl _) (fun k hk => by omega))
    have HFd := Lib.hid (HFr.out.trans ((FrS.of1 (R := w8.heap.size) (S := fun k => k = w.heap.size + 1) hfd rfl).weak (Nat.le_refl _) fun k _ h => .inl h))
    have hsd : w8.heap.size ≤ wd.heap.size := by omega
    have HRM2 : Hid (RM = rdRgs nM (getU 6 up)) := HRM.out
    clear hmd hfd hfd' hzd HRM
    generalize getU 6 up = uM at *
    go_upto_block 2 with (fail)
    go_cut [7] (fun _ wx => ∃ (ps : List Rg) (pv : Value) (up : Up), rdRgs nM uM = (ps, up) ∧ ps.length ≤ 255 ∧ up.s.length ≤ 4096 ∧ UpM wx (w.heap.size + 1) up ∧
      Blk wx (w.heap.size + 2) 26 #[.int .i64 unit, .slice Ag L.length cg, pv, .slice none 0 0] ∧ wx.ownsRow wd.heap.size 49 3 pv ps.length (ps.flatMap rgc) ∧ wd.heap.size ≤ wx.heap.size ∧ FrS wd.heap.size (fun k => k = w.heap.size + 1 ∨ k = w.heap.size + 2) wd wx)
    case first =>
      go_wp2_with fail
      go_loopw [7] (fun vi wq => ∃ (k : Nat) (ps : List Rg) (pv : Value) (up : Up), vi = .int .i64 k ∧ ps.length + k ≤ 255 ∧ rdRgs nM uM = (ps ++ (rdRgs k up).1, (rdRgs k up).2) ∧ up.s.length ≤ 4096 ∧ UpM wq (w.heap.size + 1) up ∧
        Blk wq (w.heap.size + 2) 26 #[.int .i64 unit, .slice Ag L.length cg, pv, .slice none 0 0] ∧ wq.ownsRow wd.heap.size 49 3 pv ps.length (ps.flatMap rgc) ∧ wd.heap.size ≤ wq.heap.size ∧ FrS wd.heap.size (fun k => k = w.heap.size + 1 ∨ k = w.heap.size + 2) wd wq) (fun i _ => (intOf i).toNat)
      case atStart => exact ⟨nM, [], .slice none 0 0, uM, rfl, by simpa using hnM255, by simp, huM, HMd.out, HKd.out, World.ownsRow_nil _ _ _ _, Nat.le_refl _, FrS.refl _ _ _⟩
      case round =>
        obtain ⟨k, ps, pv, up, rfl, hpk, hrp, hup, hpm, hgq, hpo, hps, hpf⟩ := hrel
        have HRp := Lib.hid hrp
        have HPm := Lib.hid hpm
        have HPo := Lib.hid hpo
        have HPf := Lib.hid hpf
        have HGq := Lib.hid hgq
        have c1 := hpm.cell 1
        simp only [List.getElem?_toArray, List.getElem?_cons_zero, List.getElem?_cons_succ] at c1
        obtain ⟨Ap, cp, rfl⟩ := own_form hpo
        by_cases hend2 : k = 0 ∨ up.bad = true
        · have hrp0 : rdRgs k up = ([], up) := by
            rcases hend2 with rfl | hb
            · rfl
            · cases k with
              | zero => rfl
              | succ k => unfold rdRgs; rw [if_pos hb]
          have HEn2 : Hid (rdRgs nM uM = (ps, up)) := by unfold Hid; rw [HRp.out, hrp0, List.append_nil]
          have hcase : k = 0 ∨ (0 < k ∧ up.bad = true) := by
            rcases hend2 with h | h
            · exact .inl h
            · rcases Nat.eq_zero_or_pos k with h2 | h2
              · exact .inl h2
              · exact .inr ⟨h2, h⟩
          have hp255 : ps.length ≤ 255 := by omega
          clear hend2 hrp0 hrp hpm hpo hpf hgq
          rcases hcase with hk0 | ⟨hkp, hb⟩
          all_goals try subst hk0
          all_goals try (rw [hb] at c1; clear hb)
          all_goals
            go_wp2_with fail
            go_meet
            exact ⟨ps, _, up, HEn2.out, hp255, hup, HPm.out, HGq.out, HPo.out, hps, HPf.out⟩
        · obtain ⟨j, rfl⟩ : ∃ j, k = j + 1 := ⟨k - 1, by omega⟩
          have hbad : up.bad = false := by cases h : up.bad with
            | false => rfl
            | true => exact absurd (.inr h) hend2
          have HSt2 : Hid (rdRgs (j + 1) up = (rdRg up :: (rdRgs j (rdRgU up)).1, (rdRgs j (rdRgU up)).2)) := by unfold Hid; rw [rdRgs, if_neg (by rw [hbad]; decide)]
          rw [hbad] at c1
          have HG7 := Lib.hid (get_any 3 up (w.heap.size + 1) _ hpm (by omega) (by omega))
          rw [show ((3 : Nat) : Int) = 3 from rfl] at HG7
          have HPt : Hid (rdRg up = ⟨getV 3 up, getV 3 (getU 3 up), getV 1 (getU 3 (getU 3 up))⟩) := rfl
          have HPu : Hid (rdRgU up = getU 1 (getU 3 (getU 3 up))) := rfl
          have hl7 : (getU 3 up).s.length ≤ 4096 := Nat.le_trans (getU_len _ _) hup
          have hl8 : (getU 3 (getU 3 up)).s.length ≤ 4096 := Nat.le_trans (getU_len _ _) hl7
          have hl9 : (getU 1 (getU 3 (getU 3 up))).s.length ≤ 4096 := Nat.le_trans (getU_len _ _) hl8
          have HS1 := Lib.hid fun W (h : UpM W (w.heap.size + 1) (getU 3 up)) => get_any 3 (getU 3 up) (w.heap.size + 1) W h (by omega) (by omega)
          rw [show ((3 : Nat) : Int) = 3 from rfl] at HS1
          have HS2 := Lib.hid fun W (h : UpM W (w.heap.size + 1) (getU 3 (getU 3 up))) => get_any 1 (getU 3 (getU 3 up)) (w.heap.size + 1) W h (by omega) (by omega)
          rw [show ((1 : Nat) : Int) = 1 from rfl] at HS2
          generalize getV 3 up = pg at *
          generalize getV 3 (getU 3 up) = x at *
          generalize getV 1 (getU 3 (getU 3 up)) = y at *
          generalize getU 1 (getU 3 (getU 3 up)) = uc at *
          generalize getU 3 (getU 3 up) = ub at *
          generalize getU 3 up = ua at *
          clear hend2 hbad hrp hpm hpo hpf hgq
          go_wp2_with fail
          refine HG7.out.mono ?_
          rintro e w7 ⟨rfl, hm7, hf7⟩
          have hz7 : Hid (w7.heap.size = wr.heap.size) := hf7.size
          have HF7 := Lib.hid hf7
          have HS8 := Lib.hid (HS1.out (w7.alloc (.cells #[.int .i64 pg, .int .i64 0, .int .i64 0] 49)) (Blk.alloc hm7 _))
          have HP8 := Lib.hid (Blk.new w7 49 #[.int .i64 pg, .int .i64 0, .int .i64 0])
          clear hm7 hf7 c1
          go_wp2_with fail
          refine HS8.out.mono ?_
          rintro e w9 ⟨rfl, hm9, hf9⟩
          have hb7 : w.heap.size + 2 < w7.heap.size := by rw [hz7.out]; omega
          have hz9 : Hid (w9.heap.size = w7.heap.size + 1) := by unfold Hid; rw [hf9.size]; simp
          have hp9 := (FrS.of1 (R := w7.heap.size + 1) (S := fun k => k = w.heap.size + 1) hf9 rfl).blk HP8.out (by omega) (by omega)
          have hm9' := Blk.far (show Blk w9 (w.heap.size + 1) _ _ from hm9) (p := ⟨w7.heap.size, 1, none⟩) (by show w.heap.size + 1 ≠ w7.heap.size; omega) (.int .i64 x)
          have HS10 := Lib.hid (HS2.out (w9.setCell ⟨w7.heap.size, 1, none⟩ (.int .i64 x)) hm9')
          have HF9 := Lib.hid hf9
          have HP9 := Lib.hid hp9
          have p1 := hp9.cell 1
          have f1 := hp9.frozen 1
          simp only [List.getElem?_toArray, List.getElem?_cons_zero, List.getElem?_cons_succ] at p1
          clear hm9 hf9 hp9 hm9'
          go_wp2_with fail
          refine HS10.out.mono ?_
          rintro e w11 ⟨rfl, hm11, hf11⟩
          have hp11 := (FrS.of1 (R := w7.heap.size + 1) (S := fun k => k = w.heap.size + 1) hf11 rfl).blk (HP9.out.put 1 (.int .i64 x)) (by omega) (by omega)
          have p2 := hp11.cell 2
          have f2 := hp11.frozen 2
          simp at p2
          have hfr : FrS wd.heap.size (fun k => k = w.heap.size + 1 ∨ k = w.heap.size + 2) wd (w11.setCell ⟨w7.heap.size, 2, none⟩ (.int .i64 y)) := by
            have hz := hz7.out
            have k1 := HPf.out.trans (FrS.of1 HF7.out (.inl rfl))
            have k2 := (k1.alloc (by omega) (.cells #[.int .i64 pg, .int .i64 0, .int .i64 0] 49)).trans (FrS.of1 HF9.out (.inl rfl))
            have k3 := (k2.put (p := ⟨w7.heap.size, 1, none⟩) (.inl (by show wd.heap.size ≤ w7.heap.size; omega)) (.int .i64 x)).trans (FrS.of1 hf11 (.inl rfl))
            exact k3.put (p := ⟨w7.heap.size, 2, none⟩) (.inl (by show wd.heap.size ≤ w7.heap.size; omega)) _
          have hfb : FrS wr.heap.size (fun k => k = w.heap.size + 1) wr (w11.setCell ⟨w7.heap.size, 2, none⟩ (.int .i64 y)) := by
            have hz := hz7.out
            have k1 := (FrS.of1 (R := wr.heap.size) (S := fun k => k = w.heap.size + 1) HF7.out rfl)
            have k2 := (k1.alloc (by omega) (.cells #[.int .i64 pg, .int .i64 0, .int .i64 0] 49)).trans (FrS.of1 HF9.out rfl)
            have k3 := (k2.put (p := ⟨w7.heap.size, 1, none⟩) (.inl (by show wr.heap.size ≤ w7.heap.size; omega)) (.int .i64 x)).trans (FrS.of1 hf11 rfl)
            exact k3.put (p := ⟨w7.heap.size, 2, none⟩) (.inl (by show wr.heap.size ≤ w7.heap.size; omega)) _
          have hp12 := hp11.put 2 (.int .i64 y)
          have hm12 := Blk.far (show Blk w11 (w.heap.size + 1) _ _ from hm11) (p := ⟨w7.heap.size, 2, none⟩) (by show w.heap.size + 1 ≠ w7.heap.size; omega) (.int .i64 y)
          simp at hp12
          generalize hw12 : w11.setCell ⟨w7.heap.size, 2, none⟩ (.int .i64 y) = w12 at *
          have hg12 := hfb.blk HGq.out HGq.out.lt (by omega)
          have ho12 := hfb.own HPo.out fun k hk => ⟨(own_lt HPo.out k hk).2, fun e => by have := (own_lt HPo.out k hk).1; omega⟩
          have g2 := hg12.cell 2
          have g2f := hg12.frozen 2
          have z0 := hp12.cell 0
          have z1 := hp12.cell 1
          have z2 := hp12.cell 2
          simp at g2 z0 z1 z2
          have HO12 := Lib.hid ho12
          have HG12 := Lib.hid hg12
          have HM12 : Hid (UpM w12 (w.heap.size + 1) uc) := hm12
          have HF12 := Lib.hid hfr
          have HFb12 := Lib.hid hfb
          have hlp : w7.heap.size < w12.heap.size := hp12.lt
          have hlg : w.heap.size + 2 < w12.heap.size := hg12.lt
          have hsx : wd.heap.size ≤ w12.heap.size := hfr.size
          have HOl : Hid (∀ k, (Value.slice Ap ps.length cp).ownBlock = some k → wd.heap.size ≤ k) := fun k hk => (own_lt ho12 k hk).1
          clear ho12 hg12 hm12 hfr hfb hp12 hp11 hm11 hf11
          go_wp2_with (at_builtin; go_must (refine wpList_pushk eRg rfl (.tmp 58) (.tmp 60) rfl wd.heap.size (.slice Ap ps.length cp) ps.length _ rfl (HO12.out.alloc _) ⟨w12.heap.size, 0, none⟩ 1 [.int .i64 pg, .int .i64 x, .int .i64 y] rfl rfl (news_new _ _ _ _ rfl) (by simp [Value.oneCell']) (by omega) (by omega) (by omega) (by simp; omega) ?_); go_must (intro v' w13 hown13 hgr13 _; have HO13 := Lib.hid hown13; have HGr := Lib.hid hgr13; have hgk := ((HG12.out.alloc (.cells #[.int .i64 pg, .int .i64 x, .int .i64 y] 49)).grown hgr13 (fun e => by have := HOl.out _ e.symm; omega)); have h2 := hgk.cell 2; have h2f := hgk.frozen 2; simp at h2; obtain ⟨A13, c13, rfl⟩ := own_form hown13; have HGk2 := Lib.hid (hgk.put 2 (.slice A13 (ps.length + 1) c13)); clear hown13 hgr13 hgk))
          go_roundw
          case rel =>
            refine ⟨j, ps ++ [rdRg up], .slice A13 (ps.length + 1) c13, uc, by go_num, by simp; omega, ?_, hl9, ?_, ?_, ?_, ?_, ?_⟩
            · rw [HRp.out, HSt2.out, HPu.out]; simp
            · exact ((Blk.alloc (show Blk w12 (w.heap.size + 1) _ _ from HM12.out) _).grown HGr.out (fun e => by have := HOl.out _ e.symm; omega)).far (p := ⟨w.heap.size + 2, 2, none⟩) (by show w.heap.size + 1 ≠ w.heap.size + 2; omega) _
            · have := HGk2.out; simpa using this
            · have h13 := own_setCell HO13.out (p := ⟨w.heap.size + 2, 2, none⟩) (.inl (by show w.heap.size + 2 < wd.heap.size; omega)) (.slice A13 (ps.length + 1) c13)
              rw [List.length_append, List.flatMap_append, HPt.out]
              simpa [rgc] using h13
            · have := HGr.out.size; simp only [World.setCell]; simp at this ⊢; omega
            · exact ((((HF12.out.alloc hsx _).grown HGr.out (Nat.le_trans hsx (by simp)) fun k hk => .inl (HOl.out k hk)).put (.inr (.inr rfl)) _))
          case measure => simp [intOf]
    case rest =>
      obtain ⟨ms, mv, up2, hrm, hm255, hup2, hum, hgk, hmo, hsm, hfm⟩ := hcut
      obtain ⟨Am, cm, rfl⟩ := own_form hmo
      obtain rfl : RM = (ms, up2) := HRM2.out.trans hrm
      have HGd2 := Lib.hid (get_any 6 up2 (w.heap.size + 1) wc hum (by omega) (by omega))
      rw [show ((6 : Nat) : Int) = 6 from rfl] at HGd2
      have huK : (getU 6 up2).s.length ≤ 4096 := Nat.le_trans (getU_len _ _) hup2
      have HGk2 := Lib.hid hgk
      have HMo := Lib.hid hmo
      have HFm := Lib.hid hfm
      clear hum hgk hmo hfm hrm
      go_wp2_with fail
      refine HGd2.out.mono ?_
      rintro e wf ⟨rfl, hmf, hff⟩
      have hzf : wf.heap.size = wc.heap.size := hff.size
      have hff' := FrS.of1 (R := wc.heap.size) (S := fun k => k = w.heap.size + 1) hff rfl
      have HMf := Lib.hid hmf
      have HKf := Lib.hid (hff'.blk HGk2.out HGk2.out.lt (by omega))
      have hdf : FrS wd.heap.size (fun k => k = w.heap.size + 1 ∨ k = w.heap.size + 2) wd wf := HFm.out.trans ((FrS.of1 (R := wd.heap.size) (S := fun k => k = w.heap.size + 1) hff rfl).weak (Nat.le_refl _) fun k _ h => .inl h)
      have HGf : Hid (Gls wf (fun k => w8.heap.size ≤ k ∧ k < wf.heap.size) (.slice Ag L.length cg) (L.map (·.1))) := by
        have g1 := HGrd.out.fr hdf (Nat.le_refl _) (fun k hk => by omega)
        obtain ⟨vs, x1, x2⟩ := g1.gls
        exact ⟨vs, x1.mono fun k hk h => ⟨h, hk⟩, fun i hi => ⟨(x2 i hi).1.mono fun k hk h => ⟨h, hk⟩, SlM.mono (x2 i hi).2 fun k hk h => ⟨h, hk⟩⟩⟩
      have HMs : Hid (SlM wf (fun k => w8.heap.size ≤ k ∧ k < wf.heap.size) (.slice Am ms.length cm) ms.length (ms.flatMap rgc)) := by
        have g1 := hff'.own HMo.out fun k hk => ⟨(own_lt HMo.out k hk).2, fun e => by have := (own_lt HMo.out k hk).1; omega⟩
        exact (SlM.of_own g1).mono fun k hk h => ⟨by have := h.2; omega, hk⟩
      have h8f : FrS w8.heap.size (fun k => k = w.heap.size + 1 ∨ k = w.heap.size + 2) w8 wf := HFd.out.trans (hdf.weak hsd fun k _ h => h)
      have HFf : Hid (FrS w.heap.size (fun _ => False) w wf) := HF8.out.trans (h8f.weak (by omega) fun k hk h => by omega)
      have HRf := Lib.hid (h8f.blk HR8.out (by omega) (by omega))
      have hsf : w8.heap.size ≤ wf.heap.size := by omega
      have HRK2 : Hid (RK = rdKps nK (getU 6 up2)) := HRK.out
      clear hmf hff hff' hzf hdf h8f HRK
      generalize getU 6 up2 = uK at *
      go_upto_block 4 with (fail)
      go_cut [8] (fun _ wx => ∃ (ps : List Kp) (pv : Value) (up : Up), rdKps nK uK = (ps, up) ∧ ps.length ≤ 255 ∧ up.s.length ≤ 4096 ∧ UpM wx (w.heap.size + 1) up ∧
        Blk wx (w.heap.size + 2) 26 #[.int .i64 unit, .slice Ag L.length cg, .slice Am ms.length cm, pv] ∧ wx.ownsRow wf.heap.size 35 3 pv ps.length (ps.flatMap kpc) ∧ wf.heap.size ≤ wx.heap.size ∧ FrS wf.heap.size (fun k => k = w.heap.size + 1 ∨ k = w.heap.size + 2) wf wx)
      case first =>
        go_wp2_with fail
        go_loopw [8] (fun vi wq => ∃ (k : Nat) (ps : List Kp) (pv : Value) (up : Up), vi = .int .i64 k ∧ ps.length + k ≤ 255 ∧ rdKps nK uK = (ps ++ (rdKps k up).1, (rdKps k up).2) ∧ up.s.length ≤ 4096 ∧ UpM wq (w.heap.size + 1) up ∧
          Blk wq (w.heap.size + 2) 26 #[.int .i64 unit, .slice Ag L.length cg, .slice Am ms.length cm, pv] ∧ wq.ownsRow wf.heap.size 35 3 pv ps.length (ps.flatMap kpc) ∧ wf.heap.size ≤ wq.heap.size ∧ FrS wf.heap.size (fun k => k = w.heap.size + 1 ∨ k = w.heap.size + 2) wf wq) (fun i _ => (intOf i).toNat)
        case atStart => exact ⟨nK, [], .slice none 0 0, uK, rfl, by simpa using hnK255, by simp, huK, HMf.out, HKf.out, World.ownsRow_nil _ _ _ _, Nat.le_refl _, FrS.refl _ _ _⟩
        case round =>
          obtain ⟨k, ps, pv, up, rfl, hpk, hrp, hup, hpm, hgq, hpo, hps, hpf⟩ := hrel
          have HRp := Lib.hid hrp
          have HPm := Lib.hid hpm
          have HPo := Lib.hid hpo
          have HPf := Lib.hid hpf
          have HGq := Lib.hid hgq
          have c1 := hpm.cell 1
          simp only [List.getElem?_toArray, List.getElem?_cons_zero, List.getElem?_cons_succ] at c1
          obtain ⟨Ap, cp, rfl⟩ := own_form hpo
          by_cases hend2 : k = 0 ∨ up.bad = true
          · have hrp0 : rdKps k up = ([], up) := by
              rcases hend2 with rfl | hb
              · rfl
              · cases k with
                | zero => rfl
                | succ k => unfold rdKps; rw [if_pos hb]
            have HEn2 : Hid (rdKps nK uK = (ps, up)) := by unfold Hid; rw [HRp.out, hrp0, List.append_nil]
            have hcase : k = 0 ∨ (0 < k ∧ up.bad = true) := by
              rcases hend2 with h | h
              · exact .inl h
              · rcases Nat.eq_zero_or_pos k with h2 | h2
                · exact .inl h2
                · exact .inr ⟨h2, h⟩
            have hp255 : ps.length ≤ 255 := by omega
            clear hend2 hrp0 hrp hpm hpo hpf hgq
            rcases hcase with hk0 | ⟨hkp, hb⟩
            all_goals try subst hk0
            all_goals try (rw [hb] at c1; clear hb)
            all_goals
              go_wp2_with fail
              go_meet
              exact ⟨ps, _, up, HEn2.out, hp255, hup, HPm.out, HGq.out, HPo.out, hps, HPf.out⟩
          · obtain ⟨j, rfl⟩ : ∃ j, k = j + 1 := ⟨k - 1, by omega⟩
            have hbad : up.bad = false := by cases h : up.bad with
              | false => rfl
              | true => exact absurd (.inr h) hend2
            have HSt2 : Hid (rdKps (j + 1) up = (rdKp up :: (rdKps j (rdKpU up)).1, (rdKps j (rdKpU up)).2)) := by unfold Hid; rw [rdKps, if_neg (by rw [hbad]; decide)]
            rw [hbad] at c1
            have HG7 := Lib.hid (get_any 1 up (w.heap.size + 1) _ hpm (by omega) (by omega))
            rw [show ((1 : Nat) : Int) = 1 from rfl] at HG7
            have HPt : Hid (rdKp up = ⟨getV 1 up, getV 1 (getU 1 up), sV (getU 1 (getU 1 up))⟩) := rfl
            have HPu : Hid (rdKpU up = getU 2 (getU 1 (getU 1 up))) := rfl
            have hl7 : (getU 1 up).s.length ≤ 4096 := Nat.le_trans (getU_len _ _) hup
            have hl8 : (getU 1 (getU 1 up)).s.length ≤ 4096 := Nat.le_trans (getU_len _ _) hl7
            have hl9 : (getU 2 (getU 1 (getU 1 up))).s.length ≤ 4096 := Nat.le_trans (getU_len _ _) hl8
            have HS1 := Lib.hid fun W (h : UpM W (w.heap.size + 1) (getU 1 up)) => get_any 1 (getU 1 up) (w.heap.size + 1) W h (by omega) (by omega)
            rw [show ((1 : Nat) : Int) = 1 from rfl] at HS1
            have HS2 := Lib.hid fun W (h : UpM W (w.heap.size + 1) (getU 1 (getU 1 up))) => signed_any (getU 1 (getU 1 up)) (w.heap.size + 1) W h (by omega)
            skip
            generalize getV 1 up = pg at *
            generalize getV 1 (getU 1 up) = x at *
            generalize sV (getU 1 (getU 1 up)) = y at *
            generalize getU 2 (getU 1 (getU 1 up)) = uc at *
            generalize getU 1 (getU 1 up) = ub at *
            generalize getU 1 up = ua at *
            clear hend2 hbad hrp hpm hpo hpf hgq
            go_wp2_with fail
            refine HG7.out.mono ?_
            rintro e w7 ⟨rfl, hm7, hf7⟩
            have hz7 : Hid (w7.heap.size = wr.heap.size) := hf7.size
            have HF7 := Lib.hid hf7
            have HS8 := Lib.hid (HS1.out (w7.alloc (.cells #[.int .i64 pg, .int .i64 0, .int .i64 0] 35)) (Blk.alloc hm7 _))
            have HP8 := Lib.hid (Blk.new w7 35 #[.int .i64 pg, .int .i64 0, .int .i64 0])
            clear hm7 hf7 c1
            go_wp2_with fail
            refine HS8.out.mono ?_
            rintro e w9 ⟨rfl, hm9, hf9⟩
            have hb7 : w.heap.size + 2 < w7.heap.size := by rw [hz7.out]; omega
            have hz9 : Hid (w9.heap.size = w7.heap.size + 1) := by unfold Hid; rw [hf9.size]; simp
            have hp9 := (FrS.of1 (R := w7.heap.size + 1) (S := fun k => k = w.heap.size + 1) hf9 rfl).blk HP8.out (by omega) (by omega)
            have hm9' := Blk.far (show Blk w9 (w.heap.size + 1) _ _ from hm9) (p := ⟨w7.heap.size, 1, none⟩) (by show w.heap.size + 1 ≠ w7.heap.size; omega) (.int .i64 x)
            have HS10 := Lib.hid (HS2.out (w9.setCell ⟨w7.heap.size, 1, none⟩ (.int .i64 x)) hm9')
            have HF9 := Lib.hid hf9
            have HP9 := Lib.hid hp9
            have p1 := hp9.cell 1
            have f1 := hp9.frozen 1
            simp only [List.getElem?_toArray, List.getElem?_cons_zero, List.getElem?_cons_succ] at p1
            clear hm9 hf9 hp9 hm9'
            go_wp2_with fail
            refine HS10.out.mono ?_
            rintro e w11 ⟨rfl, hm11, hf11⟩
            have hp11 := (FrS.of1 (R := w7.heap.size + 1) (S := fun k => k = w.heap.size + 1) hf11 rfl).blk (HP9.out.put 1 (.int .i64 x)) (by omega) (by omega)
            have p2 := hp11.cell 2
            have f2 := hp11.frozen 2
            simp at p2
            have hfr : FrS wf.heap.size (fun k => k = w.heap.size + 1 ∨ k = w.heap.size + 2) wf (w11.setCell ⟨w7.heap.size, 2, none⟩ (.int .i64 y)) := by
              have hz := hz7.out
              have k1 := HPf.out.trans (FrS.of1 HF7.out (.inl rfl))
              have k2 := (k1.alloc (by omega) (.cells #[.int .i64 pg, .int .i64 0, .int .i64 0] 35)).trans (FrS.of1 HF9.out (.inl rfl))
              have k3 := (k2.put (p := ⟨w7.heap.size, 1, none⟩) (.inl (by show wf.heap.size ≤ w7.heap.size; omega)) (.int .i64 x)).trans (FrS.of1 hf11 (.inl rfl))
              exact k3.put (p := ⟨w7.heap.size, 2, none⟩) (.inl (by show wf.heap.size ≤ w7.heap.size; omega)) _
            have hfb : FrS wr.heap.size (fun k => k = w.heap.size + 1) wr (w11.setCell ⟨w7.heap.size, 2, none⟩ (.int .i64 y)) := by
              have hz := hz7.out
              have k1 := (FrS.of1 (R := wr.heap.size) (S := fun k => k = w.heap.size + 1) HF7.out rfl)
              have k2 := (k1.alloc (by omega) (.cells #[.int .i64 pg, .int .i64 0, .int .i64 0] 35)).trans (FrS.of1 HF9.out rfl)
              have k3 := (k2.put (p := ⟨w7.heap.size, 1, none⟩) (.inl (by show wr.heap.size ≤ w7.heap.size; omega)) (.int .i64 x)).trans (FrS.of1 hf11 rfl)
              exact k3.put (p := ⟨w7.heap.size, 2, none⟩) (.inl (by show wr.heap.size ≤ w7.heap.size; omega)) _
            have hp12 := hp11.put 2 (.int .i64 y)
            have hm12 := Blk.far (show Blk w11 (w.heap.size + 1) _ _ from hm11) (p := ⟨w7.heap.size, 2, none⟩) (by show w.heap.size + 1 ≠ w7.heap.size; omega) (.int .i64 y)
            simp at hp12
            generalize hw12 : w11.setCell ⟨w7.heap.size, 2, none⟩ (.int .i64 y) = w12 at *
            have hg12 := hfb.blk HGq.out HGq.out.lt (by omega)
            have ho12 := hfb.own HPo.out fun k hk => ⟨(own_lt HPo.out k hk).2, fun e => by have := (own_lt HPo.out k hk).1; omega⟩
            have g2 := hg12.cell 3
            have g2f := hg12.frozen 3
            have z0 := hp12.cell 0
            have z1 := hp12.cell 1
            have z2 := hp12.cell 2
            simp at g2 z0 z1 z2
            have HO12 := Lib.hid ho12
            have HG12 := Lib.hid hg12
            have HM12 : Hid (UpM w12 (w.heap.size + 1) uc) := hm12
            have HF12 := Lib.hid hfr
            have HFb12 := Lib.hid hfb
            have hlp : w7.heap.size < w12.heap.size := hp12.lt
            have hlg : w.heap.size + 2 < w12.heap.size := hg12.lt
            have hsx : wf.heap.size ≤ w12.heap.size := hfr.size
            have HOl : Hid (∀ k, (Value.slice Ap ps.length cp).ownBlock = some k → wf.heap.size ≤ k) := fun k hk => (own_lt ho12 k hk).1
            clear ho12 hg12 hm12 hfr hfb hp12 hp11 hm11 hf11
            go_wp2_with (at_builtin; go_must (refine wpList_pushk eKp rfl (.tmp 80) (.tmp 82) rfl wf.heap.size (.slice Ap ps.length cp) ps.length _ rfl (HO12.out.alloc _) ⟨w12.heap.size, 0, none⟩ 1 [.int .i64 pg, .int .i64 x, .int .i64 y] rfl rfl (news_new _ _ _ _ rfl) (by simp [Value.oneCell']) (by omega) (by omega) (by omega) (by simp; omega) ?_); go_must (intro v' w13 hown13 hgr13 _; have HO13 := Lib.hid hown13; have HGr := Lib.hid hgr13; have hgk := ((HG12.out.alloc (.cells #[.int .i64 pg, .int .i64 x, .int .i64 y] 35)).grown hgr13 (fun e => by have := HOl.out _ e.symm; omega)); have h2 := hgk.cell 3; have h2f := hgk.frozen 3; simp at h2; obtain ⟨A13, c13, rfl⟩ := own_form hown13; have HGk2 := Lib.hid (hgk.put 3 (.slice A13 (ps.length + 1) c13)); clear hown13 hgr13 hgk))
            go_roundw
            case rel =>
              refine ⟨j, ps ++ [rdKp up], .slice A13 (ps.length + 1) c13, uc, by go_num, by simp; omega, ?_, hl9, ?_, ?_, ?_, ?_, ?_⟩
              · rw [HRp.out, HSt2.out, HPu.out]; simp
              · exact ((Blk.alloc (show Blk w12 (w.heap.size + 1) _ _ from HM12.out) _).grown HGr.out (fun e => by have := HOl.out _ e.symm; omega)).far (p := ⟨w.heap.size + 2, 3, none⟩) (by show w.heap.size + 1 ≠ w.heap.size + 2; omega) _
              · have := HGk2.out; simpa using this
              · have h13 := own_setCell HO13.out (p := ⟨w.heap.size + 2, 3, none⟩) (.inl (by show w.heap.size + 2 < wf.heap.size; omega)) (.slice A13 (ps.length + 1) c13)
                rw [List.length_append, List.flatMap_append, HPt.out]
                simpa [kpc] using h13
              · have := HGr.out.size; simp only [World.setCell]; simp at this ⊢; omega
              · exact ((((HF12.out.alloc hsx _).grown HGr.out (Nat.le_trans hsx (by simp)) fun k hk => .inl (HOl.out k hk)).put (.inr (.inr rfl)) _))
            case measure => simp [intOf]
      case rest =>
        obtain ⟨ks, kv, up3, hrk, hk255, hup3, hum, hgk, hko, hsk, hfk⟩ := hcut
        obtain ⟨Ak, ck, rfl⟩ := own_form hko
        have hRK : RK = (ks, up3) := HRK2.out.trans hrk
        have hF : rdFont ⟨us, false⟩ = ⟨unit, L.map (·.1), ms, ks⟩ := by rw [HFo.out, hRK]
        have hBd : rdBad ⟨us, false⟩ = up3.bad := by rw [HBa.out, hRK]
        have hD := HD.out
        rw [hF, hBd] at hD
        have HDd := Lib.hid hD
        have hkk : ∀ k, (w8.heap.size ≤ k ∧ k < wf.heap.size) → k < wf.heap.size → wc.heap[k]? = wf.heap[k]? := fun k h h2 => hfk.block k h2 (by omega)
        have hfv : FntV wc (fun k => w8.heap.size ≤ k) (.agg #[.int .i64 unit, .slice Ag L.length cg, .slice Am ms.length cm, .slice Ak ks.length ck]) ⟨unit, L.map (·.1), ms, ks⟩ := by
          have g1 := HGf.out.keep hfk.size hkk
          refine ⟨_, _, _, rfl, ?_, (SlM.keep HMs.out hfk.size hkk).mono fun k _ h => h.1, (SlM.of_own hko).mono fun k _ h => by have := h.2; omega⟩
          obtain ⟨vs, x1, x2⟩ := g1
          exact ⟨vs, x1.mono fun k _ h => h.1, fun i hi => ⟨(x2 i hi).1.mono fun k _ h => h.1, SlM.mono (x2 i hi).2 fun k _ h => h.1⟩⟩
        have hfw : FrS w.heap.size (fun _ => False) w wc := HFf.out.trans (hfk.weak (by omega) fun k hk h => by omega)
        have hbw : Below w.heap.size w wc := hfw.below (Nat.le_refl _) (fun _ h => h.elim)
        have hres := hfk.blk HRf.out (by omega) (by omega)
        have HEn := Lib.hid (encode_any ⟨unit, L.map (·.1), ms, ks⟩ _ _ wc hfv (HTw.out wc hbw) (Nat.lt_of_lt_of_le h0 hbw.size))
        have hEv : encV ⟨unit, L.map (·.1), ms, ks⟩ = if checkE ⟨unit, L.map (·.1), ms, ks⟩ = 0 then .tuple #[.string ⟨(Fnt.written ⟨unit, L.map (·.1), ms, ks⟩).toArray⟩, .int .i64 0] else .tuple #[.string ⟨#[]⟩, .int .i64 (checkE ⟨unit, L.map (·.1), ms, ks⟩)] := rfl
        generalize hFg : (⟨unit, L.map (·.1), ms, ks⟩ : Font) = F at *
        have HFv := Lib.hid hfv
        have HBw := Lib.hid hbw
        have HUm := Lib.hid hum
        have HRs := Lib.hid hres
        have g0 := hgk.cell 0
        have g1 := hgk.cell 1
        have g2 := hgk.cell 2
        have g3 := hgk.cell 3
        simp only [List.getElem?_toArray, List.getElem?_cons_zero, List.getElem?_cons_succ] at g0 g1 g2 g3
        have HGk := Lib.hid hgk
        have hb1 : w.heap.size + 1 < wc.heap.size := by have := hgk.lt; omega
        clear hrk hum hgk hko hfk hRK hF hBd hD hkk hfv hfw hbw hres hFg
        by_cases hc : checkE F = 0
        · rw [if_pos hc] at hEv
          rw [hEv] at HEn
          obtain ⟨tt, htt⟩ : ∃ tt : ByteArray, tt = ⟨(Fnt.written F).toArray⟩ := ⟨_, rfl⟩
          rw [← htt] at HEn
          have htl : tt.data.toList = Fnt.written F := by rw [htt]
          cases hbv : up3.bad with
          | true =>
            have HDb : Hid (dec s = (zeroF, 4)) := by unfold Hid; rw [HDd.out, if_pos (.inl hbv)]
            clear hEv htt htl hc
            go_wp2_with fail
            refine HEn.out.mono ?_
            rintro e wh ⟨rfl, hbh⟩
            have hbu : w.heap.size < wc.heap.size := by omega
            have u1c := (hbh.cell (p := ⟨w.heap.size + 1, 1, none⟩) hb1).trans ((Blk.cell (show Blk wc (w.heap.size + 1) _ _ from HUm.out) 1).trans rfl)
            have hrh := HRs.out.below hbh hbu
            have r0 := hrh.cell 0
            have r1 := hrh.cell 1
            have r2 := hrh.cell 2
            have r3 := hrh.cell 3
            have r0f := hrh.frozen 0
            have r1f := hrh.frozen 1
            have r2f := hrh.frozen 2
            have r3f := hrh.frozen 3
            have q0 := (hbh.cell (p := ⟨w.heap.size + 2, 0, none⟩) HGk.out.lt).trans g0
            have q1 := (hbh.cell (p := ⟨w.heap.size + 2, 1, none⟩) HGk.out.lt).trans g1
            have q2 := (hbh.cell (p := ⟨w.heap.size + 2, 2, none⟩) HGk.out.lt).trans g2
            have q3 := (hbh.cell (p := ⟨w.heap.size + 2, 3, none⟩) HGk.out.lt).trans g3
            simp only [List.getElem?_toArray, List.getElem?_cons_zero, List.getElem?_cons_succ] at r0 r1 r2 r3
            have HBh := Lib.hid hbh
            clear hbh hrh
            rw [hbv] at u1c
            go_wp2
            have HPp := Lib.hid (HPost.out (.agg #[.int .i64 0, .slice none 0 0, .slice none 0 0, .slice none 0 0]) ((((wh.setCell ⟨w.heap.size, 0, none⟩ (.int .i64 0)).setCell ⟨w.heap.size, 1, none⟩ (.slice none 0 0)).setCell ⟨w.heap.size, 2, none⟩ (.slice none 0 0)).setCell ⟨w.heap.size, 3, none⟩ (.slice none 0 0)) (by rw [HDb.out]; exact zero_fnt _ _) (((((HBw.out.trans (HBh.out.mono HBw.out.size)).setCell (Nat.le_refl _) _).setCell (Nat.le_refl _) _).setCell (Nat.le_refl _) _).setCell (Nat.le_refl _) _))
            rw [HDb.out] at HPp
            refine bodyPost_ret (v := .tuple #[.agg #[.int .i64 0, .slice none 0 0, .slice none 0 0, .slice none 0 0], .int .i64 4]) (by simp [results, Tryd.results14, go_sem, r0, r1, r2, r3, World.cell?_setCell_other, World.cell?_setCell_same]) rfl HPp.out
          | false =>
            by_cases hw : Fnt.written F = s.data.toList
            · have HDb : Hid (dec s = (F, 0)) := by
                unfold Hid; rw [HDd.out, if_neg]
                rintro (h | h | h)
                · rw [hbv] at h; cases h
                · exact h hc
                · exact h hw
              have hts : tt = s := by
                apply ByteArray.ext
                apply Array.ext'
                rw [htl, hw]
              clear hEv htt htl hc hw
              subst hts
              go_wp2_with fail
              refine HEn.out.mono ?_
              rintro e wh ⟨rfl, hbh⟩
              have hbu : w.heap.size < wc.heap.size := by omega
              have u1c := (hbh.cell (p := ⟨w.heap.size + 1, 1, none⟩) hb1).trans ((Blk.cell (show Blk wc (w.heap.size + 1) _ _ from HUm.out) 1).trans rfl)
              have hrh := HRs.out.below hbh hbu
              have r0 := hrh.cell 0
              have r1 := hrh.cell 1
              have r2 := hrh.cell 2
              have r3 := hrh.cell 3
              have r0f := hrh.frozen 0
              have r1f := hrh.frozen 1
              have r2f := hrh.frozen 2
              have r3f := hrh.frozen 3
              have q0 := (hbh.cell (p := ⟨w.heap.size + 2, 0, none⟩) HGk.out.lt).trans g0
              have q1 := (hbh.cell (p := ⟨w.heap.size + 2, 1, none⟩) HGk.out.lt).trans g1
              have q2 := (hbh.cell (p := ⟨w.heap.size + 2, 2, none⟩) HGk.out.lt).trans g2
              have q3 := (hbh.cell (p := ⟨w.heap.size + 2, 3, none⟩) HGk.out.lt).trans g3
              simp only [List.getElem?_toArray, List.getElem?_cons_zero, List.getElem?_cons_succ] at r0 r1 r2 r3
              have HBh := Lib.hid hbh
              clear hbh hrh
              rw [hbv] at u1c
              go_wp2
              have hfin : FntV ((((wh.setCell ⟨w.heap.size, 0, none⟩ (.int .i64 unit)).setCell ⟨w.heap.size, 1, none⟩ (.slice Ag L.length cg)).setCell ⟨w.heap.size, 2, none⟩ (.slice Am ms.length cm)).setCell ⟨w.heap.size, 3, none⟩ (.slice Ak ks.length ck)) (fun k => w.heap.size ≤ k) (.agg #[.int .i64 unit, .slice Ag L.length cg, .slice Am ms.length cm, .slice Ak ks.length ck]) F := by
                have h1 := HFv.out.later HBh.out
                have hf := ((((FrS.refl wh.heap.size (fun k => k = w.heap.size) wh).put (p := ⟨w.heap.size, 0, none⟩) (.inr rfl) (.int .i64 unit)).put (p := ⟨w.heap.size, 1, none⟩) (.inr rfl) (.slice Ag L.length cg)).put (p := ⟨w.heap.size, 2, none⟩) (.inr rfl) (.slice Am ms.length cm)).put (p := ⟨w.heap.size, 3, none⟩) (.inr rfl) (.slice Ak ks.length ck)
                have h2 := h1.keep hf.size fun k h h2 => hf.block k h2 (by omega)
                obtain ⟨vg, vm, vk, e, x1, x2, x3⟩ := h2
                obtain ⟨vs, y1, y2⟩ := x1
                refine ⟨vg, vm, vk, e, ⟨vs, y1.mono fun k _ h => by omega, fun i hi => ⟨?_, SlM.mono (y2 i hi).2 fun k _ h => by omega⟩⟩, x2.mono fun k _ h => by omega, x3.mono fun k _ h => by omega⟩
                exact (y2 i hi).1.mono fun k _ h => by omega
              have HPp := Lib.hid (HPost.out _ _ (by rw [HDb.out]; exact hfin) (((((HBw.out.trans (HBh.out.mono HBw.out.size)).setCell (Nat.le_refl _) _).setCell (Nat.le_refl _) _).setCell (Nat.le_refl _) _).setCell (Nat.le_refl _) _))
              rw [HDb.out] at HPp
              refine bodyPost_ret (v := .tuple #[.agg #[.int .i64 unit, .slice Ag L.length cg, .slice Am ms.length cm, .slice Ak ks.length ck], .int .i64 0]) (by simp [results, Tryd.results14, go_sem, r0, r1, r2, r3, World.cell?_setCell_other, World.cell?_setCell_same]) rfl HPp.out
            · have HDb : Hid (dec s = (zeroF, 4)) := by unfold Hid; rw [HDd.out, if_pos (.inr (.inr hw))]
              have hne : (tt.toList == s.toList) = false := by
                rw [beq_eq_false_iff_ne, Lib.toList_data, Lib.toList_data, htl]; exact hw
              clear hEv htt htl hc hw
              go_wp2_with fail
              refine HEn.out.mono ?_
              rintro e wh ⟨rfl, hbh⟩
              have hbu : w.heap.size < wc.heap.size := by omega
              have u1c := (hbh.cell (p := ⟨w.heap.size + 1, 1, none⟩) hb1).trans ((Blk.cell (show Blk wc (w.heap.size + 1) _ _ from HUm.out) 1).trans rfl)
              have hrh := HRs.out.below hbh hbu
              have r0 := hrh.cell 0
              have r1 := hrh.cell 1
              have r2 := hrh.cell 2
              have r3 := hrh.cell 3
              have r0f := hrh.frozen 0
              have r1f := hrh.frozen 1
              have r2f := hrh.frozen 2
              have r3f := hrh.frozen 3
              have q0 := (hbh.cell (p := ⟨w.heap.size + 2, 0, none⟩) HGk.out.lt).trans g0
              have q1 := (hbh.cell (p := ⟨w.heap.size + 2, 1, none⟩) HGk.out.lt).trans g1
              have q2 := (hbh.cell (p := ⟨w.heap.size + 2, 2, none⟩) HGk.out.lt).trans g2
              have q3 := (hbh.cell (p := ⟨w.heap.size + 2, 3, none⟩) HGk.out.lt).trans g3
              simp only [List.getElem?_toArray, List.getElem?_cons_zero, List.getElem?_cons_succ] at r0 r1 r2 r3
              have HBh := Lib.hid hbh
              clear hbh hrh
              rw [hbv] at u1c
              go_wp2
              have HPp := Lib.hid (HPost.out (.agg #[.int .i64 0, .slice none 0 0, .slice none 0 0, .slice none 0 0]) ((((wh.setCell ⟨w.heap.size, 0, none⟩ (.int .i64 0)).setCell ⟨w.heap.size, 1, none⟩ (.slice none 0 0)).setCell ⟨w.heap.size, 2, none⟩ (.slice none 0 0)).setCell ⟨w.heap.size, 3, none⟩ (.slice none 0 0)) (by rw [HDb.out]; exact zero_fnt _ _) (((((HBw.out.trans (HBh.out.mono HBw.out.size)).setCell (Nat.le_refl _) _).setCell (Nat.le_refl _) _).setCell (Nat.le_refl _) _).setCell (Nat.le_refl _) _))
              rw [HDb.out] at HPp
              refine bodyPost_ret (v := .tuple #[.agg #[.int .i64 0, .slice none 0 0, .slice none 0 0, .slice none 0 0], .int .i64 4]) (by simp [results, Tryd.results14, go_sem, r0, r1, r2, r3, World.cell?_setCell_other, World.cell?_setCell_same]) rfl HPp.out
        · rw [if_neg hc] at hEv
          rw [hEv] at HEn
          have HDb : Hid (dec s = (zeroF, 4)) := by unfold Hid; rw [HDd.out, if_pos (.inr (.inl hc))]
          have hc0 : (checkE F != 0) = true := by simpa using hc
          clear hEv
          generalize checkE F = e0 at *
          cases hbv : up3.bad with
          | true =>
            go_wp2_with fail
            refine HEn.out.mono ?_
            rintro e wh ⟨rfl, hbh⟩
            have hbu : w.heap.size < wc.heap.size := by omega
            have u1c := (hbh.cell (p := ⟨w.heap.size + 1, 1, none⟩) hb1).trans ((Blk.cell (show Blk wc (w.heap.size + 1) _ _ from HUm.out) 1).trans rfl)
            have hrh := HRs.out.below hbh hbu
            have r0 := hrh.cell 0
            have r1 := hrh.cell 1
            have r2 := hrh.cell 2
            have r3 := hrh.cell 3
            have r0f := hrh.frozen 0
            have r1f := hrh.frozen 1
            have r2f := hrh.frozen 2
            have r3f := hrh.frozen 3
            have q0 := (hbh.cell (p := ⟨w.heap.size + 2, 0, none⟩) HGk.out.lt).trans g0
            have q1 := (hbh.cell (p := ⟨w.heap.size + 2, 1, none⟩) HGk.out.lt).trans g1
            have q2 := (hbh.cell (p := ⟨w.heap.size + 2, 2, none⟩) HGk.out.lt).trans g2
            have q3 := (hbh.cell (p := ⟨w.heap.size + 2, 3, none⟩) HGk.out.lt).trans g3
            simp only [List.getElem?_toArray, List.getElem?_cons_zero, List.getElem?_cons_succ] at r0 r1 r2 r3
            have HBh := Lib.hid hbh
            clear hbh hrh
            rw [hbv] at u1c
            go_wp2
            have HPp := Lib.hid (HPost.out (.agg #[.int .i64 0, .slice none 0 0, .slice none 0 0, .slice none 0 0]) ((((wh.setCell ⟨w.heap.size, 0, none⟩ (.int .i64 0)).setCell ⟨w.heap.size, 1, none⟩ (.slice none 0 0)).setCell ⟨w.heap.size, 2, none⟩ (.slice none 0 0)).setCell ⟨w.heap.size, 3, none⟩ (.slice none 0 0)) (by rw [HDb.out]; exact zero_fnt _ _) (((((HBw.out.trans (HBh.out.mono HBw.out.size)).setCell (Nat.le_refl _) _).setCell (Nat.le_refl _) _).setCell (Nat.le_refl _) _).setCell (Nat.le_refl _) _))
            rw [HDb.out] at HPp
            refine bodyPost_ret (v := .tuple #[.agg #[.int .i64 0, .slice none 0 0, .slice none 0 0, .slice none 0 0], .int .i64 4]) (by simp [results, Tryd.results14, go_sem, r0, r1, r2, r3, World.cell?_setCell_other, World.cell?_setCell_same]) rfl HPp.out
          | false =>
            go_wp2_with fail
            refine HEn.out.mono ?_
            rintro e wh ⟨rfl, hbh⟩
            have hbu : w.heap.size < wc.heap.size := by omega
            have u1c := (hbh.cell (p := ⟨w.heap.size + 1, 1, none⟩) hb1).trans ((Blk.cell (show Blk wc (w.heap.size + 1) _ _ from HUm.out) 1).trans rfl)
            have hrh := HRs.out.below hbh hbu
            have r0 := hrh.cell 0
            have r1 := hrh.cell 1
            have r2 := hrh.cell 2
            have r3 := hrh.cell 3
            have r0f := hrh.frozen 0
            have r1f := hrh.frozen 1
            have r2f := hrh.frozen 2
            have r3f := hrh.frozen 3
            have q0 := (hbh.cell (p := ⟨w.heap.size + 2, 0, none⟩) HGk.out.lt).trans g0
            have q1 := (hbh.cell (p := ⟨w.heap.size + 2, 1, none⟩) HGk.out.lt).trans g1
            have q2 := (hbh.cell (p := ⟨w.heap.size + 2, 2, none⟩) HGk.out.lt).trans g2
            have q3 := (hbh.cell (p := ⟨w.heap.size + 2, 3, none⟩) HGk.out.lt).trans g3
            simp only [List.getElem?_toArray, List.getElem?_cons_zero, List.getElem?_cons_succ] at r0 r1 r2 r3
            have HBh := Lib.hid hbh
            clear hbh hrh
            rw [hbv] at u1c
            go_wp2
            have HPp := Lib.hid (HPost.out (.agg #[.int .i64 0, .slice none 0 0, .slice none 0 0, .slice none 0 0]) ((((wh.setCell ⟨w.heap.size, 0, none⟩ (.int .i64 0)).setCell ⟨w.heap.size, 1, none⟩ (.slice none 0 0)).setCell ⟨w.heap.size, 2, none⟩ (.slice none 0 0)).setCell ⟨w.heap.size, 3, none⟩ (.slice none 0 0)) (by rw [HDb.out]; exact zero_fnt _ _) (((((HBw.out.trans (HBh.out.mono HBw.out.size)).setCell (Nat.le_refl _) _).setCell (Nat.le_refl _) _).setCell (Nat.le_refl _) _).setCell (Nat.le_refl _) _))
            rw [HDb.out] at HPp
            refine bodyPost_ret (v := .tuple #[.agg #[.int .i64 0, .slice none 0 0, .slice none 0 0, .slice none 0 0], .int .i64 4]) (by simp [results, Tryd.results14, go_sem, r0, r1, r2, r3, World.cell?_setCell_other, World.cell?_setCell_same]) rfl HPp.out
end Go.Proofs.YtefkglmdkjkbiaaDoor
