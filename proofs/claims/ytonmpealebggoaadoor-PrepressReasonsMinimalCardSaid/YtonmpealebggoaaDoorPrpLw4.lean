/- The law PrepressReasonsMinimal: no fact of a reason can be left out. -/
import Derived.Test.YtonmpealebggoaaDoorPrpLwS
import Derived.Deep.QuietTactic
import Derived.BigQuiet
namespace Go.Proofs.YtonmpealebggoaaDoor
open Go.RowKit Pr
set_option maxRecDepth 100000 in
set_option maxHeartbeats 16000000 in
theorem minimal_law (r : Rl) (u : V5) (l : List Ft) (fv : Value) (P Q : Nat → Prop) (w : World) (hu : CdV P w u r.2) (hn : r.1.length ≤ maxLen) (hf : FtsM Q w fv l) (hT : Tabs w) :
    Calls Tryd.prog 6 #[.agg #[.string (Bs r.1), u.k, u.t, u.c, u.n, u.d], fv] w fun e w' => e = .returned (.bool true) ∧ Below w.heap.size w w' := by
  have HJd := Lib.hid (fun W (hW : Below w.heap.size w W) => judged_any W (hT.later hW))
  have HJu := Lib.hid (fun b0 W (hW : Below w.heap.size w W) (hb : Blk W b0 36 #[.string (Bs r.1), u.k, u.t, u.c, u.n, u.d]) => judge_any r u l b0 fv P Q W hb (hu.later hW) hn (hf.later hW) (hT.later hW))
  have HTr := Lib.hid (fun (m : List Ft) (mv : Value) (P' : Nat → Prop) W (hW : Below w.heap.size w W) (hm : FtsM P' W mv m) => Truth_any r u m mv P P' W (hu.later hW) hn hm (hT.later hW))
  have HMn := Lib.hid (fun (h0 : checkE [r] = 0) (h1 : factsE l = 0) x (hx : x ∈ becF 12 r.2 [] l) => minimal (r := r) (l := l) h0 h1 (x := x) hx)
  have HFv := Lib.hid hf
  obtain ⟨fA, fc, rfl⟩ := hf.1.form
  obtain ⟨tv, dv, vs, rfl, ht, hd, -⟩ := hu.open_
  obtain ⟨A1, c1, rfl⟩ := ht.form
  obtain ⟨A2, c2, rfl⟩ := hd.form
  clear hu hf ht hd hT
  dsimp only [V5.val] at *
  generalize Bs r.1 = NM at *
  generalize r.2.terms.length = n1 at *
  generalize r.2.kids.length = n2 at *
  generalize r.2.kind = k0 at *
  generalize r.2.cmp = k2 at *
  generalize r.2.than = k3 at *
  generalize hfn : l.length = fn at *
  have HFn := Lib.hid hfn
  clear hfn
  have HK1 := Lib.hid (Blk.new w 36 #[.string NM, .int .i64 k0, .slice A1 n1 c1, .int .i64 k2, .int .i64 k3, .slice A2 n2 c2])
  have HB1 := Lib.hid ((Below.refl w.heap.size w).alloc (Nat.le_refl _) (.cells #[.string NM, .int .i64 k0, .slice A1 n1 c1, .int .i64 k2, .int .i64 k3, .slice A2 n2 c2] 36))
  go_enter Tryd.func6, Tryd.ntmps6
  go_wp2_with fail
  generalize w.alloc (.cells #[.string NM, .int .i64 k0, .slice A1 n1 c1, .int .i64 k2, .int .i64 k3, .slice A2 n2 c2] 36) = w1 at *
  refine (HJd.out _ HB1.out).mono ?_
  rintro e w2 ⟨rfl, hb2⟩
  have HB2 := Lib.hid (HB1.out.trans (hb2.mono HB1.out.size))
  have HK2 := Lib.hid (HK1.out.below hb2 HK1.out.lt)
  clear hb2 HJd HB1 HK1
  obtain ⟨x0, x1, x2, x3, x4, x5⟩ := b6_cells HK2.out
  have xl := HK2.out.lt
  have hbx := (Below.refl w2.heap.size w2).alloc (Nat.le_refl _) (.cells #[.string NM, .int .i64 k0, .slice A1 n1 c1, .int .i64 k2, .int .i64 k3, .slice A2 n2 c2] 36)
  have HBx := Lib.hid (HB2.out.trans (hbx.mono HB2.out.size))
  have HJx := Lib.hid (HJu.out w2.heap.size _ HBx.out (Blk.new w2 36 #[.string NM, .int .i64 k0, .slice A1 n1 c1, .int .i64 k2, .int .i64 k3, .slice A2 n2 c2]))
  have HKx := Lib.hid (HK2.out.below hbx xl)
  clear hbx HJu
  go_wp2_with fail
  generalize w2.alloc (.cells #[.string NM, .int .i64 k0, .slice A1 n1 c1, .int .i64 k2, .int .i64 k3, .slice A2 n2 c2] 36) = w3 at *
  refine HJx.out.mono ?_
  rintro e w4 ⟨hb4, p1, p2, p3⟩
  have HB4 := Lib.hid (HBx.out.trans (hb4.mono HBx.out.size))
  have HK4 := Lib.hid (HKx.out.below hb4 HKx.out.lt)
  clear hb4 HBx HKx HJx HB2 HK2 x0 x1 x2 x3 x4 x5 xl
  by_cases h0 : checkE [r] = 0
  case neg =>
    have u0 : (checkE [r] != 0) = true := by rw [bne_iff_ne]; exact h0
    obtain rfl := p1 h0
    clear p1 p2 p3 h0 HMn
    generalize checkE [r] = ce at *
    go_wp2_with fail
    go_ret
    exact ⟨rfl, HB4.out⟩
  by_cases h1 : factsE l = 0
  case neg =>
    have u0 : (factsE l != 0) = true := by rw [bne_iff_ne]; exact h1
    obtain rfl := p2 h0 h1
    clear p1 p2 p3 h1 HMn
    generalize factsE l = ce at *
    go_wp2_with fail
    go_ret
    exact ⟨rfl, HB4.out⟩
  obtain ⟨p4, p5, p6⟩ := p3 h0 h1
  have HMx := Lib.hid (HMn.out h0 h1)
  rcases truth_cases 12 l r.2 with ht | ht | ht
  rotate_left
  · obtain rfl := p4 ht
    clear p1 p2 p3 p4 p5 p6 HMn HMx ht
    go_wp2_with fail
    go_ret
    exact ⟨rfl, HB4.out⟩
  · obtain ⟨g, cap, rfl, hg, hc1, hc2, q1⟩ := p6 ht
    clear p1 p2 p3 p4 p5 p6 HMn HMx ht
    go_wp2_with fail
    go_ret
    exact ⟨rfl, HB4.out⟩
  obtain ⟨g, cap, bs, rfl, hg, hc1, hc2, q0, q1, q2, hs⟩ := p5 ht
  have HSb := Lib.hid hs
  obtain ⟨bA, bc, rfl⟩ := hs.form
  have HXb := Lib.hid hs.caps
  clear p1 p2 p3 p4 p5 p6 HMn ht hs
  generalize becF 12 r.2 [] l = R at *
  generalize hN : R.length = N at *
  have HN := Lib.hid hN
  clear hN
  go_wp2_with fail
  have hN63 : N ≤ 9223372036854775807 := Nat.le_trans HXb.out.2.1 HXb.out.2.2
  have hf64 : fn ≤ 64 := by rw [← HFn.out]; exact (factsE_zero.1 h1).1
  have hf63 : fn ≤ 9223372036854775807 := by rw [← HFn.out]; exact Nat.le_trans HFv.out.1.caps.2.1 HFv.out.1.caps.2.2
  go_loopw [8, 9, 11, 12, 13, 48, 54] (fun _ _ _ _ _ v48 _ wr => True ∧ ∃ i : Nat, i ≤ N ∧ v48 = .int .i64 i ∧ Below w4.heap.size w4 wr) (fun _ _ _ _ _ v48 _ _ => N - (intOf v48).toNat)
  case atStart => exact ⟨trivial, 0, Nat.zero_le _, rfl, Below.refl _ _⟩
  case round =>
    obtain ⟨-, i, hi, rfl, hb⟩ := hrel
    have HBr := Lib.hid (HB4.out.trans (hb.mono HB4.out.size))
    by_cases hlt : i < N
    case neg =>
      have t0 : decide ((i : Int) < (N : Int)) = false := by simp; omega
      go_wp2_with fail
      go_ret
      exact ⟨rfl, HBr.out⟩
    have t0 : decide ((i : Int) < (N : Int)) = true := by simp; omega
    obtain ⟨bb, bo, rfl, -, hbl, hcell⟩ := SlM.addr HSb.out (by omega)
    have hiR : i < R.length := by rw [HN.out]; exact hlt
    obtain ⟨x, hx⟩ : ∃ x, x = R[i] := ⟨_, rfl⟩
    have hxm : x ∈ R := by rw [hx]; exact List.getElem_mem hiR
    have y0 : wr.cell? ⟨bb, bo + i, none⟩ = some (.string (Bs x.1)) := (hb.cell (p := ⟨bb, bo + i, none⟩) hbl).trans (hcell i _ (by unfold fnames; rw [List.getElem?_map, List.getElem?_eq_getElem hiR, hx]; rfl))
    have hbl2 := Nat.lt_of_lt_of_le hbl hb.size
    have HXm := Lib.hid (HMx.out x hxm)
    have HCw : Hid (∀ W, Below wr.heap.size wr W → ∀ nm : Src, Calls Tryd.prog 18 #[.slice (some ⟨bb, bo, none⟩) N bc, .string (Bs nm)] W fun e w' => e = .returned (.bool (hasN R nm)) ∧ w' = W) := fun W hW nm => by
      have := slices_Contains_string bb bo N bc (R.map fun y => Bs y.1) (Bs nm) W (by rw [List.length_map, HN.out]; exact Nat.le_refl _) hN63 (fun j hj => by
        have hj2 : j < R.length := by simpa using hj
        rw [(hb.trans (hW.mono hb.size)).cell (p := ⟨bb, bo + j, none⟩) hbl, hcell j _ (by unfold fnames; rw [List.getElem?_map, List.getElem?_eq_getElem hj2]; rfl)]
        rw [List.getD_eq_getElem?_getD, List.getElem?_map, List.getElem?_eq_getElem hj2]; rfl)
      rw [← HN.out, List.take_of_length_le (by simp), hasN_str] at this
      rw [← HN.out]
      exact this
    have r2 : wr.cell? ⟨g, 2, none⟩ = some (.slice (some ⟨bb, bo, none⟩) N bc) := (hb.cell (p := ⟨g, 2, none⟩) hg).trans q2
    have rl : g < wr.heap.size := Nat.lt_of_lt_of_le hg hb.size
    have HKr := Lib.hid (HK4.out.below hb HK4.out.lt)
    clear hcell hx hxm q0 q1 q2
    generalize x.1 = S at *
    have HSS : Hid ((Bs S).toList = S) := Lib.toList_data _
    generalize Bs S = SS at *
    go_wp2_with fail
    generalize wr = wm at *
    go_loopw [9, 11, 54] (fun v9 _ v54 wz => True ∧ ∃ (j k : Nat) (A9 : Option Addr) (c9 : Nat), j ≤ fn ∧ v54 = .int .i64 j ∧ v9 = .slice A9 k c9 ∧ k = (restF R S (l.take j)).length ∧ k ≤ j ∧ wz.ownsRow wm.heap.size 50 2 (.slice A9 k c9) k (fcells (restF R S (l.take j))) ∧ Below wm.heap.size wm wz) (fun _ _ v54 _ => fn - (intOf v54).toNat)
    case atStart => exact ⟨trivial, 0, 0, none, 0, Nat.zero_le _, rfl, rfl, rfl, Nat.le_refl _, ⟨rfl, .inl ⟨rfl, rfl⟩⟩, Below.refl _ _⟩
    case round =>
      obtain ⟨-, j, k, A9, c9, hj, rfl, rfl, hk, hkj, hown, hbz⟩ := hrel
      have HKk := Lib.hid hk
      have HOz := Lib.hid hown
      have HBz := Lib.hid hbz
      have hszz := hbz.size
      clear hk hown
      by_cases hjl : j < fn
      · have t1 : decide ((j : Int) < (fn : Int)) = true := by simp; omega
        obtain ⟨fb, fo, rfl, -, hfb, hcell⟩ := FtsM.at_ (n := fn) HFv.out (by rw [HFn.out]; omega)
        obtain ⟨d0, d1⟩ := hcell j (by rw [HFn.out]; exact hjl)
        have hbw := HBr.out.trans (hbz.mono HBr.out.size)
        replace d0 := (hbw.cell (p := ⟨fb, fo + j * 2, none⟩) hfb).trans d0
        replace d1 := (hbw.cell (p := ⟨fb, fo + j * 2 + 1, none⟩) hfb).trans d1
        have hfb2 := Nat.lt_of_lt_of_le hfb hbw.size
        have HTk : Hid (restF R S (l.take (j + 1)) = restF R S (l.take j) ++ if ((l.getD j ft0).1 != S && hasN R (l.getD j ft0).1) = true then [l.getD j ft0] else []) := by
          have h2 : l.take (j + 1) = l.take j ++ [l.getD j ft0] := by rw [List.take_add_one, List.getD_eq_getElem?_getD, List.getElem?_eq_getElem (by rw [HFn.out]; exact hjl)]; rfl
          rw [h2]
          unfold restF
          rw [List.filter_append, List.filter_cons]
          rfl
        have HCn := Lib.hid (fun W hW => HCw.out W hW (l.getD j ft0).1)
        have z2 : wr.cell? ⟨g, 2, none⟩ = some (.slice (some ⟨bb, bo, none⟩) N bc) := (hbz.cell (p := ⟨g, 2, none⟩) rl).trans r2
        have zl := Nat.lt_of_lt_of_le rl hszz
        generalize l.getD j ft0 = y at *
        obtain ⟨yn, yv⟩ := y
        clear hcell
        have HTf := Lib.hid (Blk.new wr 50 #[.string (Bs yn), .int .i64 yv])
        have hba := (Below.refl wr.heap.size wr).alloc (Nat.le_refl _) (.cells #[.string (Bs yn), .int .i64 yv] 50)
        have HOa := Lib.hid (own_below HOz.out hba)
        have HBa := Lib.hid (hbz.trans (hba.mono hszz))
        have v2 := (hba.cell (p := ⟨g, 2, none⟩) zl).trans z2
        have hsa : (wr.alloc (.cells #[.string (Bs yn), .int .i64 yv] 50)).heap.size = wr.heap.size + 1 := by simp
        go_upto_region 13 with (fail)
        generalize wr.alloc (.cells #[.string (Bs yn), .int .i64 yv] 50) = wq at *
        have f0 : wq.cell? ⟨wr.heap.size, 0, none⟩ = some (.string (Bs yn)) := by simpa using HTf.out.cell 0
        have f1 : wq.cell? ⟨wr.heap.size, 1, none⟩ = some (.int .i64 yv) := by simpa using HTf.out.cell 1
        have fl := HTf.out.lt
        have hlt2 : (g : Nat) < wq.heap.size := by omega
        have hT1 : (Bs yn).toList = yn := Lib.toList_data _
        have hT2 : SS.toList = S := HSS.out
        by_cases hys : yn = S
        · have u0 : ((Bs yn).toList == SS.toList) = true := by rw [hT1, hT2, beq_iff_eq]; exact hys
          have u1 : ((Bs yn).toList != SS.toList) = false := by rw [bne, u0]; rfl
          have HTn : Hid (restF R S (l.take (j + 1)) = restF R S (l.take j)) := by rw [HTk.out, hys]; simp [Hid]
          clear HTk hys hT1 hT2
          generalize Bs yn = YN at *
          go_wp2_with fail
          go_quiet (fail)
          go_wp2_with fail
          go_roundw
          case rel => exact ⟨trivial, j + 1, k, A9, c9, by omega, by go_num, rfl, by rw [HTn.out]; exact HKk.out, by omega, by rw [HTn.out]; exact HOa.out, below_drewN HBa.out _⟩
          case measure => simp [intOf]; omega
        · have u0 : ((Bs yn).toList == SS.toList) = false := by rw [hT1, hT2, beq_eq_false_iff_ne]; exact hys
          have u1 : ((Bs yn).toList != SS.toList) = true := by rw [bne, u0]; rfl
          have hne : (yn != S) = true := bne_iff_ne.2 hys
          cases hhs : hasN R yn with
          | false =>
            have HTn : Hid (restF R S (l.take (j + 1)) = restF R S (l.take j)) := by rw [HTk.out]; show _ ++ (if (yn != S && hasN R yn) = true then _ else _) = _; rw [hhs]; simp
            rw [hhs] at HCn
            clear HTk hys hT1 hT2 hhs hne
            generalize Bs yn = YN at *
            go_wp2_with fail
            go_quiet ((go_at_call 18; refine Calls.quiet_of_same (HCn.out _ (below_drewN HBa.out _))))
            go_wp2_with fail
            go_roundw
            case rel => exact ⟨trivial, j + 1, k, A9, c9, by omega, by go_num, rfl, by rw [HTn.out]; exact HKk.out, by omega, by rw [HTn.out]; exact HOa.out, below_drewN HBa.out _⟩
            case measure => simp [intOf]; omega
          | true =>
            have HTn : Hid (restF R S (l.take (j + 1)) = restF R S (l.take j) ++ [(yn, yv)]) := by rw [HTk.out]; show _ ++ (if (yn != S && hasN R yn) = true then _ else _) = _; rw [hhs, hne]; rfl
            have HFc : Hid (fcells (restF R S (l.take j)) ++ [.string (Bs yn), .int .i64 yv] = fcells (restF R S (l.take (j + 1)))) := by rw [HTn.out, fcells_append]; rfl
            have HKn : Hid (k + 1 = (restF R S (l.take (j + 1))).length) := by rw [HTn.out, List.length_append, ← HKk.out]; rfl
            rw [hhs] at HCn
            clear HTk HTn hys hT1 hT2 hhs hne
            generalize Bs yn = YN at *
            go_wp2_with fail
            go_quiet ((go_at_call 18; refine Calls.quiet_of_same (HCn.out _ (below_drewN HBa.out _))))
            have HOd : Hid ((wq.drewN nq).ownsRow wm.heap.size 50 2 (.slice A9 k c9) k (fcells (restF R S (l.take j)))) := HOa.out
            have HOe := Lib.hid (own_below HOd.out ((Below.refl (wq.drewN nq).heap.size (wq.drewN nq)).alloc (Nat.le_refl _) (.cells #[.string YN, .int .i64 yv] 50)))
            have hown9 : Hid (∀ k', (Value.slice A9 k c9).ownBlock = some k' → wm.heap.size ≤ k') := fun k' hk' => (own_lt HOd.out k' hk').1
            have hszd : Hid (wm.heap.size ≤ (wq.drewN nq).heap.size) := HBa.out.size
            have hsw := hszd.out
            clear HOd HOa
            go_wp2_with (at_builtin; go_must (refine wpList_pushk eFf rfl (.tmp 71) (.tmp 73) rfl wm.heap.size (.slice A9 k c9) k _ rfl HOe.out ⟨wr.heap.size + 1, 0, none⟩ 1 [.string YN, .int .i64 yv] rfl rfl (news_new _ _ _ _ hsa.symm) (by simp [Value.oneCell']) (by omega) (by omega) (by omega) (by simp; omega) ?_); go_must (intro v' w11 hown11 hgr11 hk11; have HO11 := Lib.hid hown11; have HGr11 := Lib.hid hgr11; obtain ⟨A11, c11, rfl⟩ := own_form hown11; clear hown11 hgr11 hk11))
            have HB11 : Hid (Below wm.heap.size wm w11) := by
              have h1 : FrS wm.heap.size (fun _ => False) wm (wq.drewN nq) := FrS.of_below (below_drewN HBa.out _) (Nat.le_refl _)
              have h2 := h1.alloc hszd.out (.cells #[.string YN, .int .i64 yv] 50)
              exact (h2.grownB HGr11.out (by simp; omega) (fun k hk => .inl (hown9.out k hk))).below (Nat.le_refl _) (fun k e => e.elim)
            go_wp2_with fail
            go_roundw
            case rel => exact ⟨trivial, j + 1, k + 1, A11, c11, by omega, by go_num, rfl, HKn.out, by omega, by rw [← HFc.out]; exact HO11.out, HB11.out⟩
            case measure => simp [intOf]; omega
      · have t1 : decide ((j : Int) < (fn : Int)) = false := by simp; omega
        obtain rfl : j = fn := by omega
        have HFr : Hid (FtsM (fun _ => True) wr (.slice A9 k c9) (restF R S l)) := by
          have h1 := HOz.out
          rw [← HFn.out, List.take_length] at h1
          have h2 := HKk.out
          rw [← HFn.out, List.take_length] at h2
          rw [h2] at h1
          rw [h2]
          exact own_ftz h1 fun x hx => HFv.out.2 x (rest_sub hx)
        have HBw := Lib.hid (HBr.out.trans (HBz.out.mono HBr.out.size))
        have HTz := Lib.hid (HTr.out _ _ _ wr HBw.out HFr.out)
        have HKz := Lib.hid (HKr.out.below HBz.out HKr.out.lt)
        obtain ⟨x0, x1, x2, x3, x4, x5⟩ := b6_cells HKz.out
        have xl := HKz.out.lt
        obtain ⟨m1, m2⟩ := HXm.out
        generalize trutE r (restF R S l) = te at *
        obtain ⟨ta, tf⟩ := te
        dsimp only at m1 m2
        subst m1
        have u1 : (ta == 0) = false := by rw [beq_eq_false_iff_ne]; exact m2
        clear HXm
        go_wp2_with fail
        refine HTz.out.mono ?_
        rintro e w6 ⟨rfl, hb6⟩
        have HB6 := Lib.hid (HBz.out.trans (hb6.mono HBz.out.size))
        clear hb6
        dsimp only
        go_wp2_with fail
        go_roundw
        case rel => exact ⟨trivial, i + 1, by omega, by go_num, hb.trans (HB6.out.mono hb.size)⟩
        case measure => simp [intOf]; omega
end Go.Proofs.YtonmpealebggoaaDoor
