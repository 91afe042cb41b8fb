/- The walk of BindWrongOrderSeen. -/
import Derived.Test.YtcnoehaemankiaaWrongLaw
import Derived.Test.YtcnoehaemankiaaSectionsLaw
namespace Go.Proofs.Ytcnoehaemankiaa
open Go.RowKit
theorem run_pre (A : Option Addr) (n c k : Nat) (hk : k ≤ c) (w : World) : (Instr.slice 31 (.slice A n c) none (some (.int .i64 (k : Int))) none).run Try.prog w = .ok (.slice A k c) w := by
  have hs : (sizeOf 3).run Try.prog w = .ok 1 w := by kernel_rfl
  have hu : (underlying 31).run Try.prog w = .ok (.slice 3) w := by kernel_rfl
  rcases A with _ | ad
  · simp [Instr.slice, hu, hs, Instr.sliceBounds, Instr.sliceBound, asIntOf, hk]
  · simp [Instr.slice, hu, hs, Instr.sliceBounds, Instr.sliceBound, asIntOf, hk, Addr.add]
theorem ints_nats_set (P : List Nat) (i x : Nat) : ints (nats (P.set i x)) = (ints (nats P)).set i (.int .i64 (x : Int)) := by simp [ints, nats, List.map_set]
def WPost (w : World) (e : Ending) (w' : World) : Prop := e = .returned (.bool true) ∧ Below w.heap.size w w'
set_option maxHeartbeats 4000000 in
set_option maxRecDepth 100000 in
theorem wrong_any (a b : Int) (v : Value) (sw : List Int) (w : World) (ok : Nat → Prop) (h : Sl w ok v (ints sw)) :
    Calls Try.prog 5 #[.int .i64 a, .int .i64 b, v] w (WPost w) := by
  obtain ⟨A, cap, rfl⟩ := h.form
  obtain ⟨_, hcap, hcm⟩ := h.cap_le
  rw [ints_length] at h hcap ⊢
  have HS := Lib.hid h
  have hm : sw.length ≤ 9223372036854775807 := by unfold maxLen at hcm; omega
  generalize hnn : sw.length = n at *
  have HN := Lib.hid hnn
  have hb0 := (Below.refl w.heap.size w).alloc (Nat.le_refl _) (Obj.cells #[Value.int IntKind.i64 1, Value.int IntKind.i64 0] 3)
  have HF := Lib.hid (faults_any _ [1, 0] 2 _ _ (new_sl w 3 (ints [1, 0]) (by simp [maxLen, ints])))
  have HB0 := Lib.hid hb0
  have HPost : Hid (∀ w', Below w.heap.size w w' → WPost w (.returned (.bool true)) w') := fun w' h => ⟨rfl, h⟩
  generalize WPost w = Post at *
  clear h hnn hb0 hcm
  go_enter Try.func5, Try.ntmps5
  go_wp2_with fail
  refine HF.out.mono ?_; rintro e w1 (⟨h1, _⟩ | ⟨_, K, vm, ve, vv, mw, hKI, rfl, hs1, hs2, hs3, hb1⟩)
  · exact absurd start_ok h1
  · have hml := start_moved hKI
    obtain ⟨Av, cv, rfl⟩ := hs3.form
    obtain ⟨Ae, ce, rfl⟩ := hs2.form
    obtain ⟨Am, cm, rfl⟩ := hs1.form
    rw [ints_length, ints_length, ints_length, hml]
    generalize (missTo [1, 0] (2 : Int).toNat).length = l1 at *
    generalize (extraTo [1, 0] K ([1, 0] : List Int).length).length = l2 at *
    have HB1 := Lib.hid (HB0.out.trans (hb1.mono HB0.out.size))
    have hBi : Hid (∀ w', Calls Try.prog 9 #[] w' fun e w'' => e = .returned (.bool true) ∧ Below w'.heap.size w' w'') := binds_any
    clear hb1 hs1 hs2 hs3 hKI hml HF
    go_wp2_with (go_at_call 9; refine (hBi.out _).mono ?_; rintro e w2 ⟨rfl, hb2⟩; have HB2 := Lib.hid hb2; clear hb2)
    refine (within_range _ _ _ _ (by omega) (by omega) (by omega)).mono ?_; rintro e w' ⟨q, hq0, hq1, rfl, rfl⟩
    obtain ⟨per, hper⟩ := Int.eq_ofNat_of_zero_le (show 0 ≤ 4 * q by omega)
    go_wp2_with fail
    refine (within_range _ _ _ _ (by omega) (by omega) (by omega)).mono ?_; rintro e w' ⟨m, hm0, hm1, rfl, rfl⟩
    obtain ⟨m, rfl⟩ := Int.eq_ofNat_of_zero_le (show 0 ≤ m by omega)
    have hper4 : per % 4 = 0 := by omega
    have hper0 : 4 ≤ per := by omega
    have hper1 : per ≤ 16 := by omega
    have hmp : m * per ≤ 512 := by
      have := Nat.mul_le_mul (show m ≤ 20 by omega) hper1; omega
    have hmp0 : 4 ≤ m * per := by
      have := Nat.mul_le_mul (show 1 ≤ m by omega) hper0; omega
    have hmany : many (m * per) per = m := by
      unfold many
      rw [show m * per + per - 1 = (per - 1) + m * per by omega, Nat.add_mul_div_right _ _ (by omega), Nat.div_eq_of_lt (by omega)]; omega
    have HPl := Lib.hid (plan_stack_any (m * per) per w2 ⟨by omega, by omega, by omega, by omega, by omega, by rw [hmany]; omega⟩)
    rw [hmany] at HPl
    have hmul : (m : Int) * (per : Int) = ((m * per : Nat) : Int) := by simp
    have HM := Lib.hid hmul
    have hb1' : (m : Int) * (per : Int) ≤ 512 := by rw [hmul]; omega
    have hb2' : 0 ≤ (m : Int) * (per : Int) := by rw [hmul]; omega
    clear hper hmany hmul hq0 hq1
    go_wp2_with fail
    have hb12 := (HB1.out.alloc HB1.out.size (Obj.cells #[Value.slice Am l1 cm, Value.slice Ae l2 ce, Value.slice Av 1 cv] 36)).trans (HB2.out.mono (HB1.out.alloc HB1.out.size _).size)
    have HB12 := Lib.hid hb12
    clear hb12
    refine HPl.out.mono ?_; rintro e w3 ⟨ad, cap2, rfl, hsec, hb3⟩
    have HSec := Lib.hid hsec
    have HB3 := Lib.hid (HB12.out.trans (hb3.mono HB12.out.size))
    clear hsec hb3
    go_wp2
    clear hb1' hb2'
    go_loopw [12, 53] (fun vo vi wr => ∃ k : Nat, k ≤ m ∧ vi = .int .i64 k ∧ wr.ownsRow w3.heap.size 3 1 vo k (ints (nats (List.range k))) ∧ Below w3.heap.size w3 wr) (fun _ i _ => m - (intOf i).toNat)
    case atStart => exact ⟨0, by omega, rfl, ⟨rfl, .inl ⟨rfl, rfl⟩⟩, Below.refl _ _⟩
    case round =>
      obtain ⟨k, hk, rfl, hown, hb⟩ := hrel
      have HO := Lib.hid hown
      have HB := Lib.hid hb
      clear hown hb
      by_cases hlt : k < m
      · go_wp2_with (at_builtin; go_must (refine wpList_push eInt rfl (.tmp 56) (.tmp 58) rfl w3.heap.size u12 k _ rfl (HO.out.alloc _) ⟨wr.heap.size, 0, none⟩ 1 (.int .i64 (k : Int)) rfl (new_one _ _ _) rfl (by omega) (by omega) (le_alloc HB.out.size _) ?_; intro v1 w4 hown1 hg1 hk1))
        go_roundw
        case rel => exact ⟨k + 1, by omega, by go_num, by rw [← nats_push]; exact hown1, (HB.out.alloc HB.out.size _).grown hg1 (le_alloc HB.out.size _) fun g hg => (own_lt HO.out g hg).1⟩
        case measure => simp [intOf]; omega
      · obtain rfl : k = m := by omega
        obtain ⟨wo, rfl⟩ : ∃ wo : World, wo = wr := ⟨_, rfl⟩
        obtain ⟨g, c7, rfl, _, hg⟩ := HO.out.form (by omega)
        obtain ⟨l6, hl6, hl6b⟩ : ∃ l6 : Nat, (l6 : Int) = min (n : Int) 6 ∧ l6 ≤ n := ⟨min n 6, by omega, by omega⟩
        have hpre := fun w => run_pre A n cap l6 (by omega) w
        go_wp2
        clear hpre
        go_loopw [67] (fun vi wr => ∃ (i : Nat) (P : List Nat), i ≤ l6 ∧ vi = .int .i64 i ∧ Ord k P ∧ wr.ownsRow w3.heap.size 3 1 (.slice (some ⟨g, 0, none⟩) k c7) k (ints (nats P)) ∧ Below w3.heap.size w3 wr) (fun i _ => l6 - (intOf i).toNat)
        case atStart => exact ⟨0, _, by omega, rfl, List.Perm.refl _, HO.out, HB.out⟩
        case round =>
          obtain ⟨i, P, hi, rfl, hP, hown, hb⟩ := hrel
          have HP := Lib.hid hP
          have HO2 := Lib.hid hown
          have HB2 := Lib.hid hb
          by_cases hil : i < l6
          · obtain ⟨bs, os, hA, hbs, hcs⟩ := ((HS.out.later HB3.out).later hb).plainA (by rw [ints_length, HN.out]; omega)
            subst hA
            have d1 := hcs i _ (ints_get (by rw [HN.out]; omega))
            generalize sw.getD i 0 = x at d1
            have HPL := Lib.hid hP.len
            clear hP hown hb hcs
            go_wp2_with fail
            refine (within_range _ _ _ _ (by omega) (by omega) (by omega)).mono ?_; rintro e w' ⟨r1, hr0, hr1, rfl, rfl⟩
            go_wp2_with fail
            refine (within_range _ _ _ _ (by omega) (by omega) (by omega)).mono ?_; rintro e w' ⟨r2, hs0, hs1, rfl, rfl⟩
            obtain ⟨p1, rfl⟩ := Int.eq_ofNat_of_zero_le hr0
            obtain ⟨p2, rfl⟩ := Int.eq_ofNat_of_zero_le hs0
            have c1 := HO2.out.cellAt p1 (by omega)
            have c2 := HO2.out.cellAt p2 (by omega)
            have c3 := HO2.out.frozenAt p1
            have c4 := HO2.out.frozenAt p2
            have c5 := (own_lt HO2.out g rfl).2
            have c6 : (ints (nats P))[p1]? = some (.int .i64 ((kat P p1 : Nat) : Int)) := by
              have hl : p1 < P.length := by rw [HPL.out]; omega
              simp [ints, nats, kat, List.getD_eq_getElem?_getD, List.getElem?_eq_getElem hl]
            have c7' : (ints (nats P))[p2]? = some (.int .i64 ((kat P p2 : Nat) : Int)) := by
              have hl : p2 < P.length := by rw [HPL.out]; omega
              simp [ints, nats, kat, List.getD_eq_getElem?_getD, List.getElem?_eq_getElem hl]
            rw [c6] at c1
            rw [c7'] at c2
            have f1 : (p1 : Int) < (k : Int) := by omega
            have f2 : (p2 : Int) < (k : Int) := by omega
            clear c6 c7'
            go_wp2
            have HSw := Lib.hid (HP.out.swap (i := p1) (j := p2) (by rw [HPL.out]; omega) (by rw [HPL.out]; omega))
            have HOs : Hid (((wr.setCell ⟨g, p1, none⟩ (.int .i64 ((kat P p2 : Nat) : Int))).setCell ⟨g, p2, none⟩ (.int .i64 ((kat P p1 : Nat) : Int))).drew.ownsRow w3.heap.size 3 1 (.slice (some ⟨g, 0, none⟩) k c7) k (ints (nats ((P.set p1 (kat P p2)).set p2 (kat P p1))))) := by
              have := ((HO2.out.stored p1 (.int .i64 ((kat P p2 : Nat) : Int))).1.stored p2 (.int .i64 ((kat P p1 : Nat) : Int))).1
              unfold Hid
              rw [ints_nats_set, ints_nats_set]
              exact this
            have HBs : Hid (Below w3.heap.size w3 ((wr.setCell ⟨g, p1, none⟩ (.int .i64 ((kat P p2 : Nat) : Int))).setCell ⟨g, p2, none⟩ (.int .i64 ((kat P p1 : Nat) : Int))).drew) :=
              ((HB2.out.setCell (own_lt HO2.out g rfl).1 _).setCell (own_lt HO2.out g rfl).1 _).drew
            generalize (P.set p1 (kat P p2)).set p2 (kat P p1) = P' at *
            generalize kat P p1 = k1 at *
            generalize kat P p2 = k2 at *
            by_cases hpp : p1 = p2
            · subst hpp
              obtain rfl : k1 = k2 := by rw [c1] at c2; injection c2 with c2; injection c2 with _ c2; omega
              go_region
              go_wp2
              exact ⟨⟨i + 1, P', by omega, by go_num, HSw.out, HOs.out, HBs.out⟩, by simp [intOf]; omega⟩
            · go_region
              go_wp2
              exact ⟨⟨i + 1, P', by omega, by go_num, HSw.out, HOs.out, HBs.out⟩, by simp [intOf]; omega⟩
          · obtain rfl : i = l6 := by omega
            obtain ⟨wp, rfl⟩ : ∃ wp : World, wp = wr := ⟨_, rfl⟩
            have hsl := (Sl.of_own HO2.out).mono (ok' := fun _ => True) fun _ _ _ => trivial
            have HSl := Lib.hid hsl
            have HRd := Lib.hid (read_stack ad cap2 k (plans 0 (k * per) per k) (.slice (some ⟨g, 0, none⟩) k c7) P wp (HSec.out.later HB2.out) hsl (by omega) (by rw [hP.len]; omega) (fun a ha => hP.lt a ha))
            have HBp := Lib.hid (HB3.out.trans (HB2.out.mono HB3.out.size))
            clear hP hown hb hsl HO HB HSec HPl
            go_wp2_with fail
            refine HRd.out.mono ?_; rintro e w4 ⟨v4, rfl, hown4, hb4⟩
            have hsl4 := (Sl.of_own hown4).mono (ok' := fun _ => True) fun _ _ _ => trivial
            obtain ⟨A4, c4, rfl⟩ := hsl4.form
            have HS4 := Lib.hid hsl4
            have HB4 := Lib.hid hb4
            have HSl4 := Lib.hid (HSl.out.later hb4)
            have HFa := Lib.hid (faults_any _ (nats P) (k : Int) w4 _ (HSl.out.later hb4))
            clear hown4 hb4 hsl4
            rw [ints_length]
            go_wp2_with fail
            refine HFa.out.mono ?_; rintro e w5 (⟨h1, _⟩ | ⟨_, K5, vm5, ve5, vv5, mw5, hKI5, rfl, t1, t2, t3, hb5⟩)
            · exact absurd (HP.out.ok (by omega) (by omega)) h1
            · have hpl := HP.out.len
              rw [Int.toNat_natCast, HP.out.miss] at t1
              have hex : extraTo (nats P) K5 (nats P).length = [] := by
                have := HP.out.extra (K := K5) (by have := hKI5.keep; rwa [nats_length] at this)
                rwa [nats_length]
              have hmi := moved_inc hKI5 hex
              rw [hex] at t2
              obtain ⟨A51, c51, rfl⟩ := t1.form
              obtain ⟨A52, c52, rfl⟩ := t2.form
              obtain ⟨A53, c53, rfl⟩ := t3.form
              rw [ints_length, ints_length]
              have HMv := Lib.hid hmi
              have HS5 := Lib.hid (HS4.out.later hb5)
              have HSl5 := Lib.hid (HSl4.out.later hb5)
              have HB5 := Lib.hid ((HBp.out.trans (HB4.out.mono HBp.out.size)).trans (hb5.mono (HBp.out.trans (HB4.out.mono HBp.out.size)).size))
              generalize movedTo (nats P) K5 (nats P).length = mv at *
              generalize hlm : mv.length = lm at *
              have HLm := Lib.hid hlm
              simp only [List.length_nil]
              obtain ⟨wF, hwF⟩ : ∃ wF, wF = w5.alloc (Obj.cells #[Value.slice A51 0 c51, Value.slice A52 0 c52, Value.slice A53 lm c53] 36) := ⟨_, rfl⟩
              have hBlk : Blk wF w5.heap.size 36 #[Value.slice A51 0 c51, Value.slice A52 0 c52, Value.slice A53 lm c53] := by rw [hwF]; exact Blk.new _ _ _
              have HSr : Hid (Sl wF (fun _ => True) (.slice A4 (gather (sec (plans 0 (k * per) per k)) P).length c4) (ints (gather (sec (plans 0 (k * per) per k)) P))) := by rw [hwF]; have := HS5.out.alloc (Obj.cells #[Value.slice A51 0 c51, Value.slice A52 0 c52, Value.slice A53 lm c53] 36); rwa [ints_length] at this
              have HSo : Hid (Sl wF (fun _ => True) (.slice (some ⟨g, 0, none⟩) k c7) (ints (nats P))) := by rw [hwF]; exact HSl5.out.alloc _
              have HBF : Hid (Below w.heap.size w wF) := by rw [hwF]; exact HB5.out.alloc HB5.out.size _
              have HWF := Lib.hid hwF
              have HRi : Hid (Asc (gather (sec (plans 0 (k * per) per k)) P) ↔ Inc (nats P)) := HP.out.read (by omega)
              have HOi : Hid (Asc (nats P) ↔ Inc (nats P)) := HP.out.asc
              generalize gather (sec (plans 0 (k * per) per k)) P = R at *
              have q0 := hBlk.cell 0
              have q1 := hBlk.cell 1
              have q2 := hBlk.cell 2
              have q3 := hBlk.lt
              simp only [List.getElem?_toArray, List.getElem?_cons_zero, List.getElem?_cons_succ] at q0 q1 q2
              clear hb5 t1 t2 t3 hKI5 hex hmi hpl hlm hwF hBlk HFa HRd
              by_cases hI : Inc (nats P)
              · have HR1 : Hid (∀ q, Calls Try.prog 13 #[.slice A4 R.length c4] (wF.drewN q) fun e w' => e = .returned (.bool true) ∧ ∃ m, w' = (wF.drewN q).drewN m) := fun q =>
                  (sorted_ints _ R _ _ (HSr.out.drewN q)).mono fun e w' h => by
                    obtain ⟨⟨bb, h1, h2⟩, m, h3⟩ := h
                    rw [h2.2 (HRi.out.2 hI)] at h1; exact ⟨h1, m, h3⟩
                have HR2 : Hid (∀ q, Calls Try.prog 13 #[.slice (some ⟨g, 0, none⟩) k c7] (wF.drewN q) fun e w' => e = .returned (.bool true) ∧ ∃ m, w' = (wF.drewN q).drewN m) := fun q =>
                  (sorted_ints _ (nats P) _ _ (HSo.out.drewN q)).mono fun e w' h => by
                    obtain ⟨⟨bb, h1, h2⟩, m, h3⟩ := h
                    rw [h2.2 (HOi.out.2 hI)] at h1; exact ⟨h1, m, h3⟩
                obtain rfl : lm = 0 := by rw [← HLm.out, HMv.out.2 hI]; rfl
                clear hI
                go_wp2
                rw [← HWF.out]
                go_quiet ((go_at_call 13; first | (with_reducible exact Calls.quiet_of (HR1.out _)) | (with_reducible exact Calls.quiet_of (HR2.out _))))
                go_wp2
                exact HPost.out _ (below_drewN HBF.out _)
              · have HR1 : Hid (∀ q, Calls Try.prog 13 #[.slice A4 R.length c4] (wF.drewN q) fun e w' => e = .returned (.bool false) ∧ ∃ m, w' = (wF.drewN q).drewN m) := fun q =>
                  (sorted_ints _ R _ _ (HSr.out.drewN q)).mono fun e w' h => by
                    obtain ⟨⟨bb, h1, h2⟩, m, h3⟩ := h
                    have hb : bb = false := by cases bb with | false => rfl | true => exact absurd (HRi.out.1 (h2.1 rfl)) hI
                    rw [hb] at h1; exact ⟨h1, m, h3⟩
                have HR2 : Hid (∀ q, Calls Try.prog 13 #[.slice (some ⟨g, 0, none⟩) k c7] (wF.drewN q) fun e w' => e = .returned (.bool false) ∧ ∃ m, w' = (wF.drewN q).drewN m) := fun q =>
                  (sorted_ints _ (nats P) _ _ (HSo.out.drewN q)).mono fun e w' h => by
                    obtain ⟨⟨bb, h1, h2⟩, m, h3⟩ := h
                    have hb : bb = false := by cases bb with | false => rfl | true => exact absurd (HOi.out.1 (h2.1 rfl)) hI
                    rw [hb] at h1; exact ⟨h1, m, h3⟩
                have hlm0 : 0 < lm := by rw [← HLm.out]; exact List.length_pos_iff.2 fun e => hI (HMv.out.1 e)
                have hlm1 : ((lm : Int) == 0) = false := by rw [beq_eq_false_iff_ne]; omega
                clear hI
                go_wp2
                rw [← HWF.out]
                go_quiet ((go_at_call 13; first | (with_reducible exact Calls.quiet_of (HR1.out _)) | (with_reducible exact Calls.quiet_of (HR2.out _))))
                go_wp2
                exact HPost.out _ (below_drewN HBF.out _)
end Go.Proofs.Ytcnoehaemankiaa
