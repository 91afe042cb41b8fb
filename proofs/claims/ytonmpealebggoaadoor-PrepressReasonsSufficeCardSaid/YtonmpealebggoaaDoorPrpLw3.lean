/- The law PrepressReasonsSuffice: the facts of a reason suffice, whatever the others are. -/
import Derived.Test.YtonmpealebggoaaDoorPrpLwS
import Derived.Deep.QuietTactic
import Derived.BigQuiet
namespace Go.Proofs.YtonmpealebggoaaDoor
open Go.RowKit Pr
theorem FtAt.drew {W : World} {b : Nat} {xs : List Value} (h : FtAt W b xs) : FtAt W.drew b xs := h
set_option maxRecDepth 100000 in
set_option maxHeartbeats 16000000 in
theorem suffice_law (r : Rl) (u : V5) (l : List Ft) (o : Int) (fv : Value) (P Q : Nat → Prop) (w : World) (hu : CdV P w u r.2) (hn : r.1.length ≤ maxLen) (hf : FtsM Q w fv l) (hT : Tabs w) :
    Calls Tryd.prog 5 #[.agg #[.string (Bs r.1), u.k, u.t, u.c, u.n, u.d], fv, .int .i64 o] w fun e w' => e = .returned (.bool true) ∧ Below w.heap.size w w' := by
  have HJd := Lib.hid (fun W (hW : Below w.heap.size w W) => judged_any W (hT.later hW))
  have HJu := Lib.hid (fun b0 W (hW : Below w.heap.size w W) (hb : Blk W b0 36 #[.string (Bs r.1), u.k, u.t, u.c, u.n, u.d]) => judge_any r u l b0 fv P Q W hb (hu.later hW) hn (hf.later hW) (hT.later hW))
  have HTr := Lib.hid (fun (m : List Ft) (mv : Value) (P' : Nat → Prop) W (hW : Below w.heap.size w W) (hm : FtsM P' W mv m) => Truth_any r u m mv P P' W (hu.later hW) hn hm (hT.later hW))
  have HWi := Lib.hid (fun W => within_k o W)
  have HMn := Lib.hid (fun (h0 : checkE [r] = 0) (h1 : factsE l = 0) (ht : truthF 12 l r.2 = 0) => suffice (r := r) (l := l) h0 h1 ht (k := wi o (-1000) 1000) (wi_lo _ _ _ (by omega)) (wi_hi _ _ _ (by omega)))
  generalize wi o (-1000) 1000 = K at *
  have HFv := Lib.hid hf
  obtain ⟨fA, fc, rfl⟩ := hf.1.form
  obtain ⟨tv, dv, vs, rfl, ht, hd, -⟩ := hu.open_
  obtain ⟨A1, c1, rfl⟩ := ht.form
  obtain ⟨A2, c2, rfl⟩ := hd.form
  clear hu hf ht hd hT
  dsimp only [V5.val] at *
  generalize Bs r.1 = NM at *
  generalize r.2.terms.length = n1 at *
  generalize r.2.kids.length = n2 at *
  generalize r.2.kind = k0 at *
  generalize r.2.cmp = k2 at *
  generalize r.2.than = k3 at *
  generalize hfn : l.length = fn at *
  have HFn := Lib.hid hfn
  clear hfn
  have HK1 := Lib.hid (Blk.new w 36 #[.string NM, .int .i64 k0, .slice A1 n1 c1, .int .i64 k2, .int .i64 k3, .slice A2 n2 c2])
  have HB1 := Lib.hid ((Below.refl w.heap.size w).alloc (Nat.le_refl _) (.cells #[.string NM, .int .i64 k0, .slice A1 n1 c1, .int .i64 k2, .int .i64 k3, .slice A2 n2 c2] 36))
  go_enter Tryd.func5, Tryd.ntmps5
  go_wp2_with fail
  generalize w.alloc (.cells #[.string NM, .int .i64 k0, .slice A1 n1 c1, .int .i64 k2, .int .i64 k3, .slice A2 n2 c2] 36) = w1 at *
  refine (HJd.out _ HB1.out).mono ?_
  rintro e w2 ⟨rfl, hb2⟩
  have HB2 := Lib.hid (HB1.out.trans (hb2.mono HB1.out.size))
  have HK2 := Lib.hid (HK1.out.below hb2 HK1.out.lt)
  clear hb2 HJd HB1 HK1
  obtain ⟨x0, x1, x2, x3, x4, x5⟩ := b6_cells HK2.out
  have xl := HK2.out.lt
  have hbx := (Below.refl w2.heap.size w2).alloc (Nat.le_refl _) (.cells #[.string NM, .int .i64 k0, .slice A1 n1 c1, .int .i64 k2, .int .i64 k3, .slice A2 n2 c2] 36)
  have HBx := Lib.hid (HB2.out.trans (hbx.mono HB2.out.size))
  have HJx := Lib.hid (HJu.out w2.heap.size _ HBx.out (Blk.new w2 36 #[.string NM, .int .i64 k0, .slice A1 n1 c1, .int .i64 k2, .int .i64 k3, .slice A2 n2 c2]))
  have HKx := Lib.hid (HK2.out.below hbx xl)
  clear hbx HJu
  go_wp2_with fail
  generalize w2.alloc (.cells #[.string NM, .int .i64 k0, .slice A1 n1 c1, .int .i64 k2, .int .i64 k3, .slice A2 n2 c2] 36) = w3 at *
  refine HJx.out.mono ?_
  rintro e w4 ⟨hb4, p1, p2, p3⟩
  have HB4 := Lib.hid (HBx.out.trans (hb4.mono HBx.out.size))
  have HK4 := Lib.hid (HKx.out.below hb4 HKx.out.lt)
  clear hb4 HBx HKx HJx HB2 HK2 x0 x1 x2 x3 x4 x5 xl
  by_cases h0 : checkE [r] = 0
  case neg =>
    have u0 : (checkE [r] != 0) = true := by rw [bne_iff_ne]; exact h0
    obtain rfl := p1 h0
    clear p1 p2 p3 h0 HMn
    generalize checkE [r] = ce at *
    go_wp2_with fail
    go_ret
    exact ⟨rfl, HB4.out⟩
  by_cases h1 : factsE l = 0
  case neg =>
    have u0 : (factsE l != 0) = true := by rw [bne_iff_ne]; exact h1
    obtain rfl := p2 h0 h1
    clear p1 p2 p3 h1 HMn
    generalize factsE l = ce at *
    go_wp2_with fail
    go_ret
    exact ⟨rfl, HB4.out⟩
  obtain ⟨p4, p5, p6⟩ := p3 h0 h1
  rcases truth_cases 12 l r.2 with ht | ht | ht
  rotate_left
  · obtain rfl := p4 ht
    clear p1 p2 p3 p4 p5 p6 HMn ht
    go_wp2_with fail
    go_ret
    exact ⟨rfl, HB4.out⟩
  · obtain ⟨g, cap, rfl, hg, hc1, hc2, q1⟩ := p6 ht
    clear p1 p2 p3 p4 p5 p6 HMn ht
    go_wp2_with fail
    go_ret
    exact ⟨rfl, HB4.out⟩
  obtain ⟨g, cap, bs, rfl, hg, hc1, hc2, q0, q1, q2, hs⟩ := p5 ht
  have HSb := Lib.hid hs
  obtain ⟨bA, bc, rfl⟩ := hs.form
  have HXb := Lib.hid hs.caps
  obtain ⟨m1, m2, m3⟩ := HMn.out h0 h1 ht
  clear p1 p2 p3 p4 p5 p6 HMn ht hs
  generalize becF 12 r.2 [] l = R at *
  generalize hN : R.length = N at *
  have HN := Lib.hid hN
  have HM1 := Lib.hid m1
  have HM2 := Lib.hid m2
  have HM3 := Lib.hid m3
  clear hN m1 m2 m3
  go_wp2_with fail
  have hN63 : N ≤ 9223372036854775807 := Nat.le_trans HXb.out.2.1 HXb.out.2.2
  have hf64 : fn ≤ 64 := by rw [← HFn.out]; exact (factsE_zero.1 h1).1
  generalize w4 = wm at *
  go_loopw [9, 10, 12, 48] (fun v9 v10 _ v48 wz => True ∧ ∃ (j k : Nat) (A9 : Option Addr) (c9 : Nat) (A10 : Option Addr) (c10 : Nat), j ≤ fn ∧ v48 = .int .i64 j ∧ v9 = .slice A9 k c9 ∧ v10 = .slice A10 j c10 ∧ k = (fewF R (l.take j)).length ∧ k ≤ j ∧ wz.ownsRow wm.heap.size 50 2 (.slice A9 k c9) k (fcells (fewF R (l.take j))) ∧ wz.ownsRow wm.heap.size 50 2 (.slice A10 j c10) j (fcells (chgF R K (l.take j))) ∧ (∀ g, (Value.slice A9 k c9).ownBlock = some g → (Value.slice A10 j c10).ownBlock ≠ some g) ∧ Below wm.heap.size wm wz) (fun _ _ _ v48 _ => fn - (intOf v48).toNat)
  case atStart => exact ⟨trivial, 0, 0, none, 0, none, 0, Nat.zero_le _, rfl, rfl, rfl, rfl, Nat.le_refl _, ⟨rfl, .inl ⟨rfl, rfl⟩⟩, ⟨rfl, .inl ⟨rfl, rfl⟩⟩, fun g h => by simp [Value.ownBlock] at h, Below.refl _ _⟩
  case round =>
    obtain ⟨-, j, k, A9, c9, A10, c10, hj, rfl, rfl, rfl, hk, hkj, hown, hown10, hap, hbz⟩ := hrel
    have HKk := Lib.hid hk
    have HOz := Lib.hid hown
    have HOx := Lib.hid hown10
    have HAp := Lib.hid hap
    have HBz := Lib.hid hbz
    have hszz := hbz.size
    have HBr := Lib.hid (HB4.out.trans (hbz.mono HB4.out.size))
    have z2 : wr.cell? ⟨g, 2, none⟩ = some (.slice bA N bc) := (hbz.cell (p := ⟨g, 2, none⟩) hg).trans q2
    have zl := Nat.lt_of_lt_of_le hg hszz
    clear hk hown hown10 hap
    by_cases hjl : j < fn
    · have t1 : decide ((j : Int) < (fn : Int)) = true := by simp; omega
      obtain ⟨fb, fo, rfl, -, hfb, hcell⟩ := FtsM.at_ (n := fn) HFv.out (by rw [HFn.out]; omega)
      obtain ⟨d0, d1⟩ := hcell j (by rw [HFn.out]; exact hjl)
      replace d0 := (HBr.out.cell (p := ⟨fb, fo + j * 2, none⟩) hfb).trans d0
      replace d1 := (HBr.out.cell (p := ⟨fb, fo + j * 2 + 1, none⟩) hfb).trans d1
      have hfb2 := Nat.lt_of_lt_of_le hfb HBr.out.size
      have h2 : l.take (j + 1) = l.take j ++ [l.getD j ft0] := by rw [List.take_add_one, List.getD_eq_getElem?_getD, List.getElem?_eq_getElem (by rw [HFn.out]; exact hjl)]; rfl
      have HTk : Hid (fewF R (l.take (j + 1)) = fewF R (l.take j) ++ if hasN R (l.getD j ft0).1 = true then [l.getD j ft0] else []) := by
        rw [h2]
        unfold fewF
        rw [List.filter_append, List.filter_cons]
        rfl
      have HTx : Hid (chgF R K (l.take (j + 1)) = chgF R K (l.take j) ++ [if hasN R (l.getD j ft0).1 = true then l.getD j ft0 else ((l.getD j ft0).1, K)]) := by
        rw [h2]
        unfold chgF
        rw [List.map_append]
        rfl
      generalize l.getD j ft0 = y at *
      obtain ⟨yn, yv⟩ := y
      clear hcell h2
      have HCn : Hid (∀ W, Below wr.heap.size wr W → Calls Tryd.prog 18 #[.slice bA N bc, .string (Bs yn)] W fun e w' => e = .returned (.bool (hasN R yn)) ∧ w' = W) := fun W hW => by
        by_cases hN0 : N = 0
        · have hR : R = [] := List.length_eq_zero_iff.1 (by rw [HN.out]; exact hN0)
          have e1 := slices_Contains_string_empty bA bc (Bs yn) W
          rw [hN0, hR]; exact e1
        · obtain ⟨bb, bo, rfl, -, hbl, hcb⟩ := SlM.addr HSb.out (by omega)
          have := slices_Contains_string bb bo N bc (R.map fun y => Bs y.1) (Bs yn) W (by rw [List.length_map, HN.out]; exact Nat.le_refl _) hN63 (fun i hi => by
            have hi2 : i < R.length := by simpa using hi
            rw [(hbz.trans (hW.mono hbz.size)).cell (p := ⟨bb, bo + i, none⟩) hbl, hcb i _ (by unfold fnames; rw [List.getElem?_map, List.getElem?_eq_getElem hi2]; rfl)]
            rw [List.getD_eq_getElem?_getD, List.getElem?_map, List.getElem?_eq_getElem hi2]; rfl)
          rw [← HN.out, List.take_of_length_le (by simp), hasN_str] at this
          rw [← HN.out]
          exact this
      have HTf := Lib.hid (Blk.new wr 50 #[.string (Bs yn), .int .i64 yv])
      have hba := (Below.refl wr.heap.size wr).alloc (Nat.le_refl _) (.cells #[.string (Bs yn), .int .i64 yv] 50)
      have HOa := Lib.hid (own_below HOz.out hba)
      have HOb := Lib.hid (own_below HOx.out hba)
      have HBa := Lib.hid (hbz.trans (hba.mono hszz))
      have v2 := (hba.cell (p := ⟨g, 2, none⟩) zl).trans z2
      have hsa : (wr.alloc (.cells #[.string (Bs yn), .int .i64 yv] 50)).heap.size = wr.heap.size + 1 := by simp
      have HCr := Lib.hid (fun nq => HCn.out _ (below_drewN hba nq))
      go_upto_region 10 with (fail)
      generalize wr.alloc (.cells #[.string (Bs yn), .int .i64 yv] 50) = wq at *
      have f0 : wq.cell? ⟨wr.heap.size, 0, none⟩ = some (.string (Bs yn)) := by simpa using HTf.out.cell 0
      have f1 : wq.cell? ⟨wr.heap.size, 1, none⟩ = some (.int .i64 yv) := by simpa using HTf.out.cell 1
      have fl := HTf.out.lt
      have hlt2 : (g : Nat) < wq.heap.size := by omega
      cases hhs : hasN R yn with
      | true =>
        rw [hhs] at HCr
        have HTn : Hid (fewF R (l.take (j + 1)) = fewF R (l.take j) ++ [(yn, yv)]) := by rw [HTk.out]; show _ ++ (if hasN R yn = true then _ else _) = _; rw [hhs]; rfl
        have HTy : Hid (chgF R K (l.take (j + 1)) = chgF R K (l.take j) ++ [(yn, yv)]) := by rw [HTx.out]; show _ ++ [if hasN R yn = true then _ else _] = _; rw [hhs]; rfl
        have HFc : Hid (fcells (fewF R (l.take j)) ++ [.string (Bs yn), .int .i64 yv] = fcells (fewF R (l.take (j + 1)))) := by rw [HTn.out, fcells_append]; rfl
        have HFd : Hid (fcells (chgF R K (l.take j)) ++ [.string (Bs yn), .int .i64 yv] = fcells (chgF R K (l.take (j + 1)))) := by rw [HTy.out, fcells_append]; rfl
        have HKn : Hid (k + 1 = (fewF R (l.take (j + 1))).length) := by rw [HTn.out, List.length_append, ← HKk.out]; rfl
        clear HTk HTx HTn HTy hhs
        have HJ : Hid (∀ n, TwJ wm.heap.size wr.heap.size wm (.string (Bs yn)) (.int .i64 yv) (.slice A9 k c9) (.slice A10 j c10) k j (fcells (fewF R (l.take j))) (fcells (chgF R K (l.take j))) (wq.drewN n)) := fun n => TwJ.drewN ⟨HOa.out, HOb.out, HAp.out, HBa.out, fl, fun e => by have := (own_lt HOz.out _ e).2; omega, fun e => by have := (own_lt HOx.out _ e).2; omega, f0, f1⟩ n
        generalize Bs yn = YN at *
        go_quiet ((go_at_call 18; refine Calls.quiet_of_same (HCr.out _)))
        have HJ1 := Lib.hid (HJ.out nq)
        have g0 := HJ1.out.c0
        have g1 := HJ1.out.c1
        have fl3 := HJ1.out.sz
        have hs3 := HJ1.out.be.size
        have hb9 : Hid (∀ b, (wq.drewN nq).heap.size ≤ b → (Value.slice A9 k c9).ownBlock ≠ some b) := fun b hb e => by have := (own_lt HJ1.out.o1 _ e).2; omega
        clear HJ HCr HCn HOz HOx HOa HOb HAp HBa HTf hsa f0 f1 fl v2 hlt2
        generalize wq.drewN nq = wz at *
        have M1 : Hid (FtAt (wz.alloc (.cells #[.string YN, .int .i64 yv] 50)) wz.heap.size [.string YN, .int .i64 yv]) := FtAt.new _ _ _ rfl
        have M2 : Hid (FtAt ((wz.alloc (.cells #[.string YN, .int .i64 yv] 50)).alloc (.cells #[.string YN, .int .i64 yv] 50)) wz.heap.size [.string YN, .int .i64 yv]) := M1.out.alloc _
        have M3 : Hid (FtAt ((wz.alloc (.cells #[.string YN, .int .i64 yv] 50)).alloc (.cells #[.string YN, .int .i64 yv] 50)) (wz.heap.size + 1) [.string YN, .int .i64 yv]) := FtAt.new _ _ _ (by simp)
        go_upto_region 11 with (fail)
        go_region_law (first
          | (refine step_pushk eFf rfl (.tmp 59) (.tmp 61) rfl wm.heap.size (.slice A9 k c9) k _ rfl (by first | exact (HJ1.out.drew.alloc hs3 _).o1 | exact ((HJ1.out.drew.alloc hs3 _).alloc (by simp; omega) _).o1) ⟨_, 0, none⟩ 1 [.string YN, .int .i64 yv] rfl rfl (by first | exact M1.out.add | exact M2.out.add | exact M3.out.add) (by simp [Value.oneCell']) (by omega) (by omega) (by omega) (by simp; omega) ?_; intro g7 cap7 w7 hown7 hg7 hk7; have HJ7 := Lib.hid (TwJ.push1 (by first | exact HJ1.out.drew.alloc hs3 _ | exact (HJ1.out.drew.alloc hs3 _).alloc (by simp; omega) _) (by simp; omega) hown7 hg7 hk7); have c70 := HJ7.out.c0; have c71 := HJ7.out.c1; have fl7 := HJ7.out.sz; have hs7 := HJ7.out.be.size; have hz7 := hg7.size; have HG7 := Lib.hid hg7; clear hown7 hg7 hk7)
          | (refine step_pushk eFf rfl (.tmp 63) (.tmp 65) rfl wm.heap.size (.slice A10 j c10) j _ rfl (by first | exact HJ7.out.o2 | exact (HJ7.out.alloc hs7 _).o2) ⟨_, 0, none⟩ 1 [.string YN, .int .i64 yv] rfl rfl (by first | exact (FtAt.new w7 _ _ rfl).add | exact (M2.out.drew.grown HG7.out (hb9.out _ (Nat.le_refl _))).add | exact (M3.out.drew.grown HG7.out (hb9.out _ (Nat.le_succ _))).add) (by simp [Value.oneCell']) (by omega) (by omega) (by omega) (by (try simp); omega) ?_; intro g8 cap8 w8 hown8 hg8 hk8; have HJ8 := Lib.hid (TwJ.push2 (by first | exact HJ7.out | exact HJ7.out.alloc hs7 _) (by (try simp); omega) hown8 hg8 hk8); clear hown8 hg8 hk8))
        all_goals
          go_wp2_with fail
          go_roundw
          case rel => exact ⟨trivial, j + 1, k + 1, _, _, _, _, by omega, by go_num, rfl, rfl, HKn.out, by omega, by rw [← HFc.out]; exact HJ8.out.o1, by rw [← HFd.out]; exact HJ8.out.o2, HJ8.out.ap, HJ8.out.be⟩
          case measure => simp [intOf]; omega
      | false =>
        rw [hhs] at HCr
        have HTn : Hid (fewF R (l.take (j + 1)) = fewF R (l.take j)) := by rw [HTk.out]; show _ ++ (if hasN R yn = true then _ else _) = _; rw [hhs]; simp
        have HTy : Hid (chgF R K (l.take (j + 1)) = chgF R K (l.take j) ++ [(yn, K)]) := by rw [HTx.out]; show _ ++ [if hasN R yn = true then _ else _] = _; rw [hhs]; rfl
        have HFd : Hid (fcells (chgF R K (l.take j)) ++ [.string (Bs yn), .int .i64 K] = fcells (chgF R K (l.take (j + 1)))) := by rw [HTy.out, fcells_append]; rfl
        clear HTk HTx HTy hhs
        have HJ : Hid (∀ n, TwJ wm.heap.size wr.heap.size wm (.string (Bs yn)) (.int .i64 yv) (.slice A9 k c9) (.slice A10 j c10) k j (fcells (fewF R (l.take j))) (fcells (chgF R K (l.take j))) (wq.drewN n)) := fun n => TwJ.drewN ⟨HOa.out, HOb.out, HAp.out, HBa.out, fl, fun e => by have := (own_lt HOz.out _ e).2; omega, fun e => by have := (own_lt HOx.out _ e).2; omega, f0, f1⟩ n
        generalize Bs yn = YN at *
        go_quiet ((go_at_call 18; refine Calls.quiet_of_same (HCr.out _)))
        have HJ1 := Lib.hid (HJ.out nq)
        have g0 := HJ1.out.c0
        have g1 := HJ1.out.c1
        have fl3 := HJ1.out.sz
        have hs3 := HJ1.out.be.size
        clear HJ HCr HCn HOz HOx HOa HOb HAp HBa HTf hsa f0 f1 fl v2 hlt2
        generalize wq.drewN nq = wz at *
        have M1 : Hid (FtAt (wz.alloc (.cells #[.string YN, .int .i64 K] 50)) wz.heap.size [.string YN, .int .i64 K]) := FtAt.new _ _ _ rfl
        go_upto_region 12 with (fail)
        go_region_law (first
          | (refine step_pushk eFf rfl (.tmp 67) (.tmp 73) rfl wm.heap.size (.slice A10 j c10) j _ rfl (HJ1.out.drew.alloc hs3 _).o2 ⟨_, 0, none⟩ 1 [.string YN, .int .i64 K] rfl rfl M1.out.add (by simp [Value.oneCell']) (by omega) (by omega) (by omega) (by simp; omega) ?_; intro g8 cap8 w8 hown8 hg8 hk8; have HJ8 := Lib.hid (TwJ.push2 (HJ1.out.drew.alloc hs3 _) (by simp; omega) hown8 hg8 hk8); clear hown8 hg8 hk8)
          | (go_simp; go_at_call 14; refine (HWi.out _).mono ?_; rintro e w5 ⟨rfl, rfl⟩))
        all_goals
          go_wp2_with fail
          go_roundw
          case rel => exact ⟨trivial, j + 1, k, _, _, _, _, by omega, by go_num, rfl, rfl, by rw [HTn.out]; exact HKk.out, by omega, by rw [HTn.out]; exact HJ8.out.o1, by rw [← HFd.out]; exact HJ8.out.o2, HJ8.out.ap, HJ8.out.be⟩
          case measure => simp [intOf]; omega
    · have t1 : decide ((j : Int) < (fn : Int)) = false := by simp; omega
      obtain rfl : j = fn := by omega
      have hkN : k = N := by
        have h2 := HKk.out
        rw [← HFn.out, List.take_length, HM1.out, HN.out] at h2
        exact h2
      subst hkN
      have HF1 : Hid (FtsM (fun _ => True) wr (.slice A9 k c9) (fewF R l)) := by
        have h1 := HOz.out
        rw [← HFn.out, List.take_length] at h1
        have h2 := HKk.out
        rw [← HFn.out, List.take_length] at h2
        rw [h2] at h1
        rw [h2]
        exact own_ftz h1 fun x hx => HFv.out.2 x (few_sub hx)
      have HF2 : Hid (FtsM (fun _ => True) wr (.slice A10 j c10) (chgF R K l)) := by
        have h1 := HOx.out
        have h3 : (chgF R K l).length = j := by unfold chgF; rw [List.length_map]; exact HFn.out
        rw [← HFn.out, List.take_length, HFn.out, ← h3] at h1
        rw [← h3]
        exact own_ftz h1 fun x hx => by obtain ⟨y, hy, e⟩ := chg_names hx; rw [e]; exact HFv.out.2 y hy
      have HT1 := HTr.out _ _ _ wr HBr.out HF1.out
      rw [HM2.out] at HT1
      have HT2 : Hid (∀ W, Below wr.heap.size wr W → Calls Tryd.prog 19 #[.agg #[.string NM, .int .i64 k0, .slice A1 n1 c1, .int .i64 k2, .int .i64 k3, .slice A2 n2 c2], .slice A10 j c10] W fun e w' => e = .returned (.tuple #[.int .i64 0, .int .i64 0]) ∧ Below W.heap.size W w') := fun W hW => by
        have h1 := HTr.out _ _ _ W (HBr.out.trans (hW.mono HBr.out.size)) ⟨HF2.out.1.later hW, HF2.out.2⟩
        rw [HM3.out] at h1
        exact h1
      have HT1 := Lib.hid HT1
      have HKz := Lib.hid (HK4.out.below HBz.out HK4.out.lt)
      obtain ⟨x0, x1, x2, x3, x4, x5⟩ := b6_cells HKz.out
      have xl := HKz.out.lt
      go_wp2_with fail
      refine HT1.out.mono ?_
      rintro e w6 ⟨rfl, hb6⟩
      obtain ⟨y0, y1, y2, y3, y4, y5⟩ := b6_cells (HKz.out.below hb6 HKz.out.lt)
      have yl := (HKz.out.below hb6 HKz.out.lt).lt
      have HT3 := Lib.hid (HT2.out w6 hb6)
      have v2 := (hb6.cell (p := ⟨g, 2, none⟩) zl).trans z2
      have vl := Nat.lt_of_lt_of_le zl hb6.size
      have HB6 := Lib.hid (HBr.out.trans (hb6.mono HBr.out.size))
      clear hb6 x0 x1 x2 x3 x4 x5 xl z2 zl HT2
      go_wp2_with fail
      refine HT3.out.mono ?_
      rintro e w7 ⟨rfl, hb7⟩
      have u2 := (hb7.cell (p := ⟨g, 2, none⟩) vl).trans v2
      have ul := Nat.lt_of_lt_of_le vl hb7.size
      have HB7 := Lib.hid (HB6.out.trans (hb7.mono HB6.out.size))
      clear hb7 y0 y1 y2 y3 y4 y5 yl v2 vl
      go_wp2_with fail
      go_ret
      exact ⟨rfl, HB7.out⟩
end Go.Proofs.YtonmpealebggoaaDoor
