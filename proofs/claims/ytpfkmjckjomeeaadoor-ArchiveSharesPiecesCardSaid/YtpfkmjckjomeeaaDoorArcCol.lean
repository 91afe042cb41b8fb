/- The walk of Collect. -/
import Derived.Test.YtpfkmjckjomeeaaDoorArcColM
namespace Go.Proofs.YtpfkmjckjomeeaaDoor
open Go.RowKit Arc
open Go.Maps (Keyed)
theorem field3 (a b c d : Int) (w : World) : (Instr.field 37 (.agg #[.int .i64 a, .int .i64 b, .int .i64 c, .int .i64 d]) 3).run Tryd.prog w = .ok (.int .i64 d) w := by kernel_rfl
structure ColR (B A : Nat) (S : St) (V : AV) (d : List (ByteArray × ByteArray)) (w : World) (i : Nat) (V1 : AV) (wr : World) : Prop where
  am : AM B A (S.mid d i) V1 wr
  old : OldM B A S.p V V1 wr
  fr : Fr (Fp A V) w wr
  fn : ∀ b, Fp A V1 b → Fp A V b ∨ w.heap.size ≤ b
  vo : V1.vo = V.vo
  vn : V1.n ≤ V.n + total (d.take i) + i
  tb : Tab wr
def CollectOk (B A : Nat) (S : St) (V : AV) (d : List (ByteArray × ByteArray)) (w : World) (e : Ending) (w' : World) : Prop :=
  ∃ V', e = .returned (.int .i64 ((S.p.sto : Int) - ((build d).p.sto : Int))) ∧ AM B A (build d) V' w' ∧ Fr (Fp A V) w w' ∧ (∀ b, Fp A V' b → Fp A V b ∨ w.heap.size ≤ b) ∧ V'.n ≤ V.n + total d + d.length
set_option maxRecDepth 100000 in
set_option maxHeartbeats 8000000 in
theorem collect_any {B A : Nat} {S : St} {V : AV} {d : List (ByteArray × ByteArray)} (w : World) (h : AM B A S V w) (hT : Tab w) (hB : 1 ≤ B) (hd : S.Has d) (hS : Srt S.order) (hl : d.length ≤ 64) (hsz : ∀ x ∈ d, x.1.size ≤ 1000 ∧ x.2.size ≤ 16384) (h2 : S.p.cnt ≤ 1000000000) (h3 : S.p.sto ≤ 1000000000) (hn : V.n + total d + d.length ≤ 900000) :
    Calls Tryd.prog 14 #[.pointer (some ⟨A, 0, none⟩)] w (CollectOk B A S V d w) := by
  have HP : Hid (∀ e w', CollectOk B A S V d w e w' = ∃ V', e = .returned (.int .i64 ((S.p.sto : Int) - ((build d).p.sto : Int))) ∧ AM B A (build d) V' w' ∧ Fr (Fp A V) w w' ∧ (∀ b, Fp A V' b → Fp A V b ∨ w.heap.size ≤ b) ∧ V'.n ≤ V.n + total d + d.length) := fun _ _ => rfl
  generalize CollectOk B A S V d w = Post at *
  have HA := Lib.hid h
  have HT := Lib.hid hT
  have HD := Lib.hid hd
  have HSr := Lib.hid hS
  have HSt := Lib.hid (stats_any w h hS.nodup (by rw [hd.bytes]; omega) h2 h3 (by have := congrArg List.length hd.nm; simp [St.order] at this; omega))
  clear h hT hd hS
  have hf3 := field3
  have hmm := @run_makeMap Tryd.prog
  go_enter Tryd.func14, Tryd.ntmps14
  go_wp2_with fail
  refine HSt.out.mono ?_; rintro e w1 ⟨rfl, hb1⟩
  unfold statsV
  have A1 := Lib.hid (HA.out.later hb1)
  have HB1 := Lib.hid hb1
  have cA := A1.out.ba.cell 0
  have cO := A1.out.ba.cell 2
  have lA := A1.out.ba.lt
  simp only [List.getElem?_toArray, List.getElem?_cons_zero, List.getElem?_cons_succ] at cA cO
  clear hb1 HSt
  go_wp2_with fail
  go_quiet (fail)
  have A2 := Lib.hid (A1.out.later (below_drewN (Below.refl _ w1) nq))
  have HB2 := Lib.hid (HB1.out.trans ((below_drewN (Below.refl _ w1) nq).mono HB1.out.size))
  generalize w1.drewN nq = w2 at *
  clear cA cO lA A1 HB1
  have cA := A2.out.ba.cell 0
  have fA := A2.out.ba.frozen 0
  have lA := A2.out.ba.lt
  simp only [List.getElem?_toArray, List.getElem?_cons_zero] at cA
  obtain ⟨Ao, co, hvo⟩ := own_form A2.out.oo
  have HVo := Lib.hid hvo
  obtain ⟨n, hno⟩ : ∃ n, S.order.length = n := ⟨_, rfl⟩
  have HNo := Lib.hid hno
  have hnd : n = d.length := by have := congrArg List.length HD.out.nm; rw [hno] at this; simpa using this
  rw [hvo, hno]
  have HNd := Lib.hid hnd
  have hn64 : n ≤ 64 := by omega
  clear hvo hno hnd
  have R0 : Hid (∃ V1, ColR B A S V d w 0 V1 ((w2.setCell ⟨A, 0, none⟩ (.map (some w2.heap.size))).alloc (.map #[] 0))) := by
    obtain ⟨c1, c2, c3⟩ := A2.out.clear
    have hb := HB2.out.size
    refine ⟨_, c1, A2.out.old, (Fr.of_below HB2.out).trans c2 fun b _ e => e, fun b e => ?_, rfl, ?_, ?_⟩
    · rcases c3 b e with (e | e | e) | e
      · exact .inl (.inl e)
      · exact .inl (.inr (.inr (.inl e)))
      · exact .inl (.inr (.inr (.inr (.inl e))))
      · right; omega
    · show V.n ≤ V.n + total (d.take 0) + 0; omega
    · refine tab_keep (tab_keep (ok := fun _ => False) HT.out (.of_below HB2.out) id (by have := HA.out.ba.lt; omega)) c2 (fun e => ?_) (by have := A2.out.ba.lt; omega)
      have := (A2.out.fp_lt e).1; omega
  go_wp2
  generalize (w2.setCell ⟨A, 0, none⟩ (.map (some w2.heap.size))).alloc (.map #[] 0) = w3 at *
  clear cA fA lA
  go_loopw [31] (fun v31 wr => ∃ (i : Nat) (V1 : AV), i ≤ n ∧ v31 = .int .i64 (i : Int) ∧ ColR B A S V d w i V1 wr) (fun v31 _ => n - (intOf v31).toNat)
  case atStart =>
    obtain ⟨V1, h1⟩ := R0.out
    exact ⟨0, V1, by omega, rfl, h1⟩
  case round =>
    obtain ⟨i, V1, hi, rfl, cr⟩ := hrel
    have CR := Lib.hid cr
    clear cr
    by_cases hlt : i < n
    · have hid : i < d.length := by have := HNd.out; omega
      obtain ⟨x, hx, hmid, hxs, hlook⟩ := HD.out.mid_split i hid
      obtain ⟨hs1, hs2⟩ := hsz _ (List.getElem_mem hid)
      have hmem : (d[i].1, x) ∈ (S.mid d i).nm := by rw [hmid]; simp
      obtain ⟨vkx, vax, hev, okx, oax⟩ := CR.out.am.en _ hmem
      obtain ⟨Ak, ck, rfl⟩ := own_form okx
      obtain ⟨Aa, ca, rfl⟩ := own_form oax
      have hino : d[i].1 ∈ (S.mid d i).order := List.mem_map_of_mem (f := Prod.fst) hmem
      have hlkn := (CR.out.am.lookN d[i].1 hs1 hino).1
      dsimp only at hev okx oax
      rw [hev] at hlkn
      have hoo := CR.out.am.oo
      rw [CR.out.vo, HVo.out, HD.out.mid_order i, HNo.out] at hoo
      obtain ⟨go, cop, eo, _, hgo, _, _, hco⟩ := own_cells hoo (by omega)
      injection eo with eo1 _ eo3
      have hnm : S.order[i]? = some d[i].1 := by rw [HD.out.nm, List.getElem?_map, List.getElem?_eq_getElem hid]; rfl
      have cN := hco i (.string d[i].1) (by unfold strs; rw [List.getElem?_map, hnm]; rfl)
      have cA1 := CR.out.am.ba.cell 1
      have lA1 := CR.out.am.ba.lt
      simp only [List.getElem?_toArray, List.getElem?_cons_zero, List.getElem?_cons_succ] at cA1
      subst eo1
      have hpl := parts_length d[i].2
      have h256 : Hid (∀ q ∈ parts d[i].2, q.size ≤ 256) := fun q hq => (parts_pos hq).2
      have HLook := Lib.hid hlook
      have HMid := Lib.hid hmid
      have HSucc := Lib.hid (St.mid_succ (S := S) i hid)
      have hkl : x.ks.length = (parts d[i].2).length := hlook.1
      have ht1 := total_take d i hid
      have ht2 := total_take_le d (i + 1)
      have hvn := CR.out.vn
      have OKx := Lib.hid okx
      have OAx := Lib.hid oax
      have HTt := Lib.hid ht1
      have hid2 : i < d.length := hid
      have HNm := Lib.hid hino
      clear hmid hlook hmem hev okx oax hoo hnm hino hgo hco eo3
      generalize hq : x.ks.length = m at *
      have HKl := Lib.hid hq
      have HPl := Lib.hid hkl
      rw [hxs] at hlkn
      have hm9 : m ≤ 16384 := by omega
      have hvn1 : V1.n + m ≤ 900000 := by omega
      clear hq hkl ht1 ht2 hpl
      generalize hnm2 : d[i].1 = name at *
      generalize hz2 : d[i].2.size = z at *
      have HNm2 := Lib.hid hnm2
      have HZ2 := Lib.hid hz2
      have HXs := Lib.hid hxs
      clear hnm2 hz2 hxs hx
      go_wp2
      have hbX := (Below.refl wr.heap.size wr).alloc (Nat.le_refl _) (Obj.cells #[.slice Ak m ck, .slice Aa m ca, .int .i64 (z : Int)] 62)
      have AM4 := Lib.hid (CR.out.am.later hbX)
      have FR4 : Hid (Fr (Fp A V1) wr _) := Lib.hid (Fr.of_below hbX)
      have OLD4 : Hid (OldM B A S.p V V1 _) := Lib.hid (CR.out.old.step (Fr.of_below hbX) fun b e => .inl e)
      have TB4 : Hid (Tab _) := Lib.hid (tab_keep (ok := fun _ => False) CR.out.tb (.of_below hbX) id (by omega))
      have HX4 : Hid (Blk _ _ _ _) := Lib.hid (Blk.new wr 62 #[.slice Ak m ck, .slice Aa m ca, .int .i64 (z : Int)])
      have OK4 : Hid (World.ownsRow _ _ _ _ _ _ _) := Lib.hid (own_below OKx.out hbX)
      have OA4 : Hid (World.ownsRow _ _ _ _ _ _ _) := Lib.hid (own_below OAx.out hbX)
      have HE4 : wr.heap.size + 1 = (wr.alloc (Obj.cells #[.slice Ak m ck, .slice Aa m ca, .int .i64 (z : Int)] 62)).heap.size := by simp
      have hXl : A < wr.heap.size := lA1
      clear hbX hlkn cN cA1 lA1
      generalize wr.alloc (Obj.cells #[.slice Ak m ck, .slice Aa m ca, .int .i64 (z : Int)] 62) = w4 at *
      have PM0 : Hid (PuM B A V1 w4 (wr.heap.size + 1) (.slice none 0 0) [] z ⟨((build (d.take i)).p.store ((parts d[i].2).take 0)).1, (S.mid d i).nm⟩ V1 (.slice none 0 0) (.slice none 0 0) ((build (d.take i)).p.store ((parts d[i].2).take 0)).2 (w4.alloc (Obj.cells #[.slice none 0 0, .slice none 0 0, .int .i64 (z : Int)] 62))) := by
        have hbE := (Below.refl w4.heap.size w4).alloc (Nat.le_refl _) (Obj.cells #[.slice none 0 0, .slice none 0 0, .int .i64 (z : Int)] 62)
        have hbl := Blk.new w4 62 #[.slice none 0 0, .slice none 0 0, .int .i64 (z : Int)]
        rw [← HE4] at hbl
        exact ⟨AM4.out.later hbE, .of_below hbE, fun b e => .inl e, hbl, World.ownsRow_nil _ _ _ _, World.ownsRow_nil _ _ _ _, World.ownsRow_nil _ _ _ _, fun b e => by simp [Value.ownBlock] at e, by omega, by omega, tab_keep (ok := fun _ => False) TB4.out (.of_below hbE) id (by omega), hB, AM4.out.ent_lt⟩
      have hE4 : wr.heap.size + 1 ≤ w4.heap.size := by omega
      clear HE4
      generalize w4.alloc (Obj.cells #[.slice none 0 0, .slice none 0 0, .int .i64 (z : Int)] 62) = w5 at *
      generalize hXe : wr.heap.size = X at *
      have HXe := Lib.hid hXe
      clear hXe
      obtain ⟨p1, hp1⟩ : ∃ p1, (build (d.take i)).p = p1 := ⟨_, rfl⟩
      have HP1 := Lib.hid hp1
      rw [hp1] at PM0 HSucc
      clear hp1
      obtain ⟨l, hl1⟩ : ∃ l, parts d[i].2 = l := ⟨_, rfl⟩
      have HL1 := Lib.hid hl1
      rw [hl1] at PM0 HSucc HPl h256 HLook
      clear hl1
      go_loopw [47] (fun v47 wq => ∃ (j : Nat) (V2 : AV) (vk va : Value), v47 = .int .i64 (j : Int) ∧ j ≤ m ∧ PuM B A V1 w4 (X + 1) (.slice none 0 0) [] z ⟨(p1.store (l.take j)).1, (S.mid d i).nm⟩ V2 vk va (p1.store (l.take j)).2 wq ∧ V2.vo = V1.vo ∧ V2.n ≤ V1.n + j) (fun v47 _ => m - (intOf v47).toNat)
      case atStart => exact ⟨0, V1, _, _, rfl, by omega, PM0.out, rfl, by omega⟩
      case round =>
        obtain ⟨j, V2, vk, va, rfl, hj, pm, hvo2, hn2⟩ := hrel
        have HV2 := Lib.hid hvo2
        clear hvo2
        by_cases hlt2 : j < m
        · have hpd := pm.later (Below.refl _ wr).drew
          obtain ⟨gk, ga, gp, cp, np, k, ix, p, rfl, rfl, ck1, hix, hnp, hvf, htk, hpin, hcells⟩ := col_cells hpd OLD4.out AM4.out OK4.out OA4.out HLook.out HKl.out HX4.out hlt2
          have hp256 := h256.out p hpin
          have hks : (p1.store (l.take j)).2.length = j := by rw [Pcs.store_length, List.length_take]; have := HPl.out; omega
          have HSn : Hid (p1.store (l.take (j + 1)) = (((p1.store (l.take j)).1.keep p).1, (p1.store (l.take j)).2 ++ [(key p, ((p1.store (l.take j)).1.keep p).2)])) := by rw [htk]; exact Pcs.store_snoc _ _ _
          have PM := Lib.hid hpd
          have HKS := Lib.hid hks
          have HVf := Lib.hid hvf
          have HCe := Lib.hid hcells
          obtain ⟨s1, s2, s3, s4⟩ := hcells _ (Fr.refl _ _)
          clear hpd pm htk hpin hks hvf hcells
          generalize p1.store (l.take j) = st at *
          obtain ⟨pj, ks⟩ := st
          dsimp only at PM HSn HKS
          have HKp : Hid (Calls Tryd.prog 26 #[.pointer (some ⟨A, 0, none⟩), .string p] wr.drew (KeepOk B A ⟨pj, (S.mid d i).nm⟩ V2 p wr.drew)) := keep_any p wr.drew PM.out.am PM.out.tb (by omega) (by omega)
          have ck2 : wr.cell? ⟨gk, j, none⟩ = some (.int .u32 (k.toNat : Int)) := ck1
          go_upto_region 12 with (fail)
          go_region_held3 (fun w' => w'.cell? ⟨X, 1, none⟩ = some (.slice (some ⟨ga, 0, none⟩) m ca) ∧ w'.cell? ⟨ga, j, none⟩ = some (.int .i64 (ix : Int)) ∧ w'.cell? ⟨gp, ix, none⟩ = some (.string p) ∧ (Instr.lookup 55 (.map (some V.P)) (.int .u32 (k.toNat : Int)) false).run Tryd.prog w' = .ok (.slice (some ⟨gp, 0, none⟩) np cp) w')
            (first | exact ⟨s1, s2, s3, s4⟩ | exact HCe.out _ fr3)
            ((go_at_call 26; refine HKp.out.mono ?_; rintro e w3 ⟨V3, rfl, am3, fr3, fn3, n3, ev3⟩))
          have PM3 := Lib.hid (PM.out.kept am3 fr3 fn3 rfl ev3.1)
          have HEv := Lib.hid ev3
          clear am3 fr3 fn3 ev3 s1 s2 s3 s4 ck1 ck2 HKp
          generalize key p = kk at *
          generalize hkp : pj.keep p = kp at *
          clear hkp
          obtain ⟨pk, ki⟩ := kp
          dsimp only at PM3 HSn
          have hks2 : ks.length = j := HKS.out
          have HK0 : Hid (Value.oneCell' (.int .u32 (kk.toNat : Int)) = true) := rfl
          have h0 := Lib.hid (hks2 ▸ PM3.out.e0)
          have hE1 : X + 1 + 1 ≤ w3.heap.size := PM3.out.be.lt
          have hj9 : j ≤ 1000000 := by omega
          have nvk : Hid (∀ b, w3.heap.size ≤ b → vk.ownBlock ≠ some b) := fun b hb e => by have := (own_lt PM3.out.ok b e).2; omega
          have HKS2 := Lib.hid hks2
          clear hks2
          go_upto_region 13 with (fail)
          refine wp_region_tail (fun w' => w'.cell? ⟨X + 1, 0, none⟩ = some vk ∧ w'.cell? ⟨X + 1, 1, none⟩ = some va) 11 (by kernel_rfl) (by kernel_rfl) (PM3.out.s0 h0.out) (fun hHeld => ?_)
          refine wpAnyD_take 0 (v := ?_) rfl (by kernel_rfl) (by kernel_rfl) (by kernel_rfl) (fun _ _ _ h => h) hHeld (Or.inl ⟨by rfl, ?_⟩) ?_
          rotate_left
          · intro w' hw'; obtain ⟨hw1, hw2⟩ := hw'; go_simp; try with_reducible rfl
          try simp only [Act.put, List.setIfInBounds_toArray, List.set_cons_zero, List.set_cons_succ]
          refine wpAnyD_take 1 (v := ?_) rfl (by kernel_rfl) (by kernel_rfl) (by kernel_rfl) (fun _ _ _ h => h) hHeld (Or.inl ⟨by rfl, ?_⟩) ?_
          rotate_left
          · intro w' hw'; obtain ⟨hw1, hw2⟩ := hw'; go_simp; try with_reducible rfl
          try simp only [Act.put, List.setIfInBounds_toArray, List.set_cons_zero, List.set_cons_succ]
          refine wpAnyD_take 2 (v := ?_) rfl (by kernel_rfl) (by kernel_rfl) (by kernel_rfl) (fun _ _ _ h => h) hHeld (Or.inl ⟨by rfl, ?_⟩) ?_
          rotate_left
          · intro w' hw'; obtain ⟨hw1, hw2⟩ := hw'; go_simp; try with_reducible rfl
          try simp only [Act.put, List.setIfInBounds_toArray, List.set_cons_zero, List.set_cons_succ]
          refine wpAnyD_take 5 (v := ?_) rfl (by kernel_rfl) (by kernel_rfl) (by kernel_rfl) (fun _ _ _ h => h) hHeld (Or.inl ⟨by rfl, ?_⟩) ?_
          rotate_left
          · intro w' hw'; obtain ⟨hw1, hw2⟩ := hw'; go_simp; try with_reducible rfl
          try simp only [Act.put, List.setIfInBounds_toArray, List.set_cons_zero, List.set_cons_succ]
          refine wpAnyD_take 6 (v := ?_) rfl (by kernel_rfl) (by kernel_rfl) (by kernel_rfl) (fun _ _ _ h => h) hHeld (Or.inl ⟨by rfl, ?_⟩) ?_
          rotate_left
          · intro w' hw'; obtain ⟨hw1, hw2⟩ := hw'; go_simp; try with_reducible rfl
          try simp only [Act.put, List.setIfInBounds_toArray, List.set_cons_zero, List.set_cons_succ]
          refine wpAnyD_take 7 (v := ?_) rfl (by kernel_rfl) (by kernel_rfl) (by kernel_rfl) (fun _ _ _ h => h) hHeld (Or.inl ⟨by rfl, ?_⟩) ?_
          rotate_left
          · intro w' hw'; obtain ⟨hw1, hw2⟩ := hw'; go_simp; try with_reducible rfl
          try simp only [Act.put, List.setIfInBounds_toArray, List.set_cons_zero, List.set_cons_succ]
          refine wpAnyD_ready [3, 8] (by kernel_rfl) ?_
          refine AllReadyD.cons rfl (fun K hK => ?_) ?_
          · go_simp
            refine hK.out _ _ (PM3.out.s0 (h0.out.alloc _)) (fun hHeld => ?_)
            clear hK K
            try simp only [Act.put, List.setIfInBounds_toArray, List.set_cons_zero, List.set_cons_succ]
            refine wpAnyD_ready [4, 8] (by kernel_rfl) ?_
            refine AllReadyD.cons rfl (fun K hK => ?_) ?_
            · refine step_K0 (h0.out.alloc _) (by rfl) (.tmp 68) (.tmp 70) (by rfl) (by rfl) ⟨w3.heap.size, 0, none⟩ 1 (by rfl) (new_at0 _ _ _) HK0.out hj9 (Nat.le_trans hE1 (h0.out.alloc _).fr.size) ?_
              intro g1 c1 W1 e1 hc1 hs1
              refine hK.out _ _ (PM3.out.sK e1) (fun hHeld => ?_)
              clear hK K
              try simp only [Act.put, List.setIfInBounds_toArray, List.set_cons_zero, List.set_cons_succ]
              refine wpAnyD_take 10 (v := ?_) rfl (by kernel_rfl) (by kernel_rfl) (by kernel_rfl) (fun _ _ _ h => h) hHeld (Or.inl ⟨by rfl, ?_⟩) ?_
              rotate_left
              · intro w' hw'; obtain ⟨hw1, hw2⟩ := hw'; go_simp; try with_reducible rfl
              try simp only [Act.put, List.setIfInBounds_toArray, List.set_cons_zero, List.set_cons_succ]
              refine wpAnyD_ready [8] (by kernel_rfl) ?_
              refine AllReadyD.cons rfl (fun K hK => ?_) ?_
              · go_simp
                refine hK.out _ _ (PM3.out.sK (e1.alloc _)) (fun hHeld => ?_)
                clear hK K
                try simp only [Act.put, List.setIfInBounds_toArray, List.set_cons_zero, List.set_cons_succ]
                refine wpAnyD_ready [9] (by kernel_rfl) ?_
                refine AllReadyD.cons rfl (fun K hK => ?_) ?_
                · refine step_A1 (e1.alloc _) (by rfl) (.tmp 73) (.tmp 75) (by rfl) (by rfl) ⟨W1.heap.size, 0, none⟩ 1 (by rfl) (new_one _ _ _) rfl hj9 (Nat.le_trans hE1 (e1.alloc _).fr.size) ?_
                  intro g2 c2 W2 e2
                  refine hK.out _ _ (PM3.out.s2 e2) (fun hHeld => ?_)
                  clear hK K
                  try simp only [Act.put, List.setIfInBounds_toArray, List.set_cons_zero, List.set_cons_succ]
                  refine wpAnyD_done (by kernel_rfl) ?_
                  simp only [List.drop_succ_cons, List.drop_zero]
                  have bx := PM3.out.box e2.fr
                  obtain ⟨d2, d3, _⟩ := three_cells bx
                  have f2 := bx.frozen 0
                  have f3 := bx.frozen 1
                  have l2 := bx.lt
                  have S2 := Lib.hid (PM3.out.stored (k := kk) (i := ki) (by rw [HKS2.out]; exact e2))
                  clear bx e2 hHeld
                  go_wp2
                  go_roundw
                  case rel => exact ⟨j + 1, V3, _, _, by go_num, by omega, by rw [HSn.out]; exact S2.out, by rw [HEv.out.2.1, HV2.out], by omega⟩
                  case measure => simp [intOf]; omega
                exact AllReadyD.nil
              exact AllReadyD.nil
            refine AllReadyD.cons rfl (fun K hK => ?_) ?_
            · go_simp
              refine hK.out _ _ (PM3.out.s0 ((h0.out.alloc _).alloc _)) (fun hHeld => ?_)
              clear hK K
              try simp only [Act.put, List.setIfInBounds_toArray, List.set_cons_zero, List.set_cons_succ]
              refine wpAnyD_ready [4] (by kernel_rfl) ?_
              refine AllReadyD.cons rfl (fun K hK => ?_) ?_
              · refine step_K0 ((h0.out.alloc _).alloc _) (by rfl) (.tmp 68) (.tmp 70) (by rfl) (by rfl) ⟨w3.heap.size, 0, none⟩ 1 (by rfl) (new_at01 _ _ _ _) HK0.out hj9 (Nat.le_trans hE1 ((h0.out.alloc _).alloc _).fr.size) ?_
                intro g1 c1 W1 e1 hc1 hs1
                refine hK.out _ _ (PM3.out.sK e1) (fun hHeld => ?_)
                clear hK K
                try simp only [Act.put, List.setIfInBounds_toArray, List.set_cons_zero, List.set_cons_succ]
                refine wpAnyD_take 10 (v := ?_) rfl (by kernel_rfl) (by kernel_rfl) (by kernel_rfl) (fun _ _ _ h => h) hHeld (Or.inl ⟨by rfl, ?_⟩) ?_
                rotate_left
                · intro w' hw'; obtain ⟨hw1, hw2⟩ := hw'; go_simp; try with_reducible rfl
                try simp only [Act.put, List.setIfInBounds_toArray, List.set_cons_zero, List.set_cons_succ]
                refine wpAnyD_ready [9] (by kernel_rfl) ?_
                refine AllReadyD.cons rfl (fun K hK => ?_) ?_
                · refine step_A1 e1 (by rfl) (.tmp 73) (.tmp 75) (by rfl) (by rfl) ⟨w3.heap.size + 1, 0, none⟩ 1 (by rfl) ((hc1 _ (by simp <;> omega) (nvk.out _ (by simp))).trans (new_at1 _ _ _ _)) rfl hj9 (Nat.le_trans hE1 e1.fr.size) ?_
                  intro g2 c2 W2 e2
                  refine hK.out _ _ (PM3.out.s2 e2) (fun hHeld => ?_)
                  clear hK K
                  try simp only [Act.put, List.setIfInBounds_toArray, List.set_cons_zero, List.set_cons_succ]
                  refine wpAnyD_done (by kernel_rfl) ?_
                  simp only [List.drop_succ_cons, List.drop_zero]
                  have bx := PM3.out.box e2.fr
                  obtain ⟨d2, d3, _⟩ := three_cells bx
                  have f2 := bx.frozen 0
                  have f3 := bx.frozen 1
                  have l2 := bx.lt
                  have S2 := Lib.hid (PM3.out.stored (k := kk) (i := ki) (by rw [HKS2.out]; exact e2))
                  clear bx e2 hHeld
                  go_wp2
                  go_roundw
                  case rel => exact ⟨j + 1, V3, _, _, by go_num, by omega, by rw [HSn.out]; exact S2.out, by rw [HEv.out.2.1, HV2.out], by omega⟩
                  case measure => simp [intOf]; omega
                exact AllReadyD.nil
              exact AllReadyD.nil
            exact AllReadyD.nil
          refine AllReadyD.cons rfl (fun K hK => ?_) ?_
          · go_simp
            refine hK.out _ _ (PM3.out.s0 (h0.out.alloc _)) (fun hHeld => ?_)
            clear hK K
            try simp only [Act.put, List.setIfInBounds_toArray, List.set_cons_zero, List.set_cons_succ]
            refine wpAnyD_ready [3] (by kernel_rfl) ?_
            refine AllReadyD.cons rfl (fun K hK => ?_) ?_
            · go_simp
              refine hK.out _ _ (PM3.out.s0 ((h0.out.alloc _).alloc _)) (fun hHeld => ?_)
              clear hK K
              try simp only [Act.put, List.setIfInBounds_toArray, List.set_cons_zero, List.set_cons_succ]
              refine wpAnyD_ready [4] (by kernel_rfl) ?_
              refine AllReadyD.cons rfl (fun K hK => ?_) ?_
              · refine step_K0 ((h0.out.alloc _).alloc _) (by rfl) (.tmp 68) (.tmp 70) (by rfl) (by rfl) ⟨w3.heap.size + 1, 0, none⟩ 1 (by rfl) (new_at1 _ _ _ _) HK0.out hj9 (Nat.le_trans hE1 ((h0.out.alloc _).alloc _).fr.size) ?_
                intro g1 c1 W1 e1 hc1 hs1
                refine hK.out _ _ (PM3.out.sK e1) (fun hHeld => ?_)
                clear hK K
                try simp only [Act.put, List.setIfInBounds_toArray, List.set_cons_zero, List.set_cons_succ]
                refine wpAnyD_take 10 (v := ?_) rfl (by kernel_rfl) (by kernel_rfl) (by kernel_rfl) (fun _ _ _ h => h) hHeld (Or.inl ⟨by rfl, ?_⟩) ?_
                rotate_left
                · intro w' hw'; obtain ⟨hw1, hw2⟩ := hw'; go_simp; try with_reducible rfl
                try simp only [Act.put, List.setIfInBounds_toArray, List.set_cons_zero, List.set_cons_succ]
                refine wpAnyD_ready [9] (by kernel_rfl) ?_
                refine AllReadyD.cons rfl (fun K hK => ?_) ?_
                · refine step_A1 e1 (by rfl) (.tmp 73) (.tmp 75) (by rfl) (by rfl) ⟨w3.heap.size, 0, none⟩ 1 (by rfl) ((hc1 _ (by simp <;> omega) (nvk.out _ (by simp))).trans (new_at01 _ _ _ _)) rfl hj9 (Nat.le_trans hE1 e1.fr.size) ?_
                  intro g2 c2 W2 e2
                  refine hK.out _ _ (PM3.out.s2 e2) (fun hHeld => ?_)
                  clear hK K
                  try simp only [Act.put, List.setIfInBounds_toArray, List.set_cons_zero, List.set_cons_succ]
                  refine wpAnyD_done (by kernel_rfl) ?_
                  simp only [List.drop_succ_cons, List.drop_zero]
                  have bx := PM3.out.box e2.fr
                  obtain ⟨d2, d3, _⟩ := three_cells bx
                  have f2 := bx.frozen 0
                  have f3 := bx.frozen 1
                  have l2 := bx.lt
                  have S2 := Lib.hid (PM3.out.stored (k := kk) (i := ki) (by rw [HKS2.out]; exact e2))
                  clear bx e2 hHeld
                  go_wp2
                  go_roundw
                  case rel => exact ⟨j + 1, V3, _, _, by go_num, by omega, by rw [HSn.out]; exact S2.out, by rw [HEv.out.2.1, HV2.out], by omega⟩
                  case measure => simp [intOf]; omega
                exact AllReadyD.nil
              exact AllReadyD.nil
            exact AllReadyD.nil
          exact AllReadyD.nil
        · obtain rfl : j = m := by omega
          have hpd := pm.later (Below.refl _ wr).drew
          have htl : l.take j = l := by rw [← HPl.out.symm, List.take_length]
          rw [htl] at hpd
          have hnm1 : (S.mid d i).nm = (build (d.take i)).nm ++ (name, x) :: S.nm.drop (i + 1) := congrArg St.nm HMid.out
          have PM := Lib.hid hpd
          have HNm1 := Lib.hid hnm1
          have hord : (St.order ⟨(p1.store l).1, (S.mid d i).nm⟩).Nodup := by
            show (S.mid d i).order.Nodup
            rw [HD.out.mid_order i]; exact HSr.out.nodup
          obtain ⟨w6, r6, m6, g6⟩ := PM.out.am.mn.put lawS Tryd.underlying56 (by unfold maxLen; omega) (keyS name (by unfold maxLen; omega)) (entV vk va z)
          have hml : j ≤ z := by
            have h1 := parts_length d[i].2
            rw [HL1.out, HZ2.out] at h1
            have := HPl.out; omega
          have R6 : Hid (∃ V3, ColR B A S V d w (i + 1) V3 w6) := by
            have hE1 : B ≤ X + 1 + 1 := by have := PM.out.am.lo.1; omega
            have h0 : AM B A ⟨(p1.store l).1, (build (d.take i)).nm ++ (name, x) :: S.nm.drop (i + 1)⟩ V2 wr.drew := by rw [← HNm1.out]; exact PM.out.am
            rw [HNm1.out] at hord m6
            obtain ⟨q1, q2, q3⟩ := h0.setName hord (own_base PM.out.ok hE1) (own_base PM.out.oa hE1) (sz := z) m6 g6
            have hs4 := CR.out.fr.size
            have hs5 := FR4.out.size
            have hs6 := PM.out.fr.size
            have fn1 : ∀ b, Fp A V2 b → Fp A V b ∨ w.heap.size ≤ b := fun b e => by
              rcases PM.out.fn b e with e | e
              · exact CR.out.fn b e
              · right; omega
            refine ⟨_, ?_, (OLD4.out.step PM.out.fr PM.out.fn).step q2 fun b e => .inl (q3 b e), ?_, fun b e => fn1 b (q3 b e), ?_, ?_, ?_⟩
            · rw [HSucc.out]; exact q1
            · refine ((CR.out.fr.trans FR4.out fun b hb e => ?_).trans PM.out.fr fun b hb e => ?_).trans q2 fun b hb e => ?_
              · rcases CR.out.fn b e with e | e
                · exact e
                · omega
              · rcases CR.out.fn b e with e | e
                · exact e
                · omega
              · rcases fn1 b e with e | e
                · exact e
                · omega
            · show V2.vo = V.vo
              rw [HV2.out, CR.out.vo]
            · show V2.n + 1 ≤ _
              have := HTt.out; omega
            · exact tab_keep PM.out.tb q2 PM.out.fp0 (by have := PM.out.be.lt; omega)
          have cA1 := PM.out.am.ba.cell 1
          have lA1 := PM.out.am.ba.lt
          obtain ⟨k0, k1, k2⟩ := three_cells PM.out.be
          have HEnt : Hid (entV vk va z = .agg #[vk, va, .int .i64 (z : Int)]) := rfl
          simp only [List.getElem?_toArray, List.getElem?_cons_zero, List.getElem?_cons_succ] at cA1
          rw [HEnt.out] at r6
          clear m6 g6 pm hpd htl hnm1 hord
          go_upto_region 15 with (fail)
          go_still_tail 6, (by kernel_rfl)
          go_wp2
          obtain ⟨V3, h3⟩ := R6.out
          refine ⟨⟨i + 1, V3, by omega, by go_num, h3⟩, ?_⟩
          simp [intOf]; omega
    · obtain rfl : i = n := by omega
      have hdl : i = d.length := HNd.out
      have AMf : Hid (AM B A (build d) V1 wr) := by
        have := CR.out.am
        rw [hdl, St.mid_end HD.out] at this; exact this
      have hbo := (build_has d).nm
      have hbc := build_cnt d
      have HSt := Lib.hid (stats_any wr AMf.out (by rw [hbo, ← HD.out.nm]; exact HSr.out.nodup) (by rw [(build_has d).bytes]; omega) (by omega) (by omega) (by have := congrArg List.length hbo; simp [St.order] at this; omega))
      have hbs := hbc.2
      clear hbo hbc hdl
      go_wp2_with fail
      refine HSt.out.mono ?_; rintro e w9 ⟨rfl, hb9⟩
      unfold statsV
      have HFin : Hid (Post (.returned (.int .i64 ((S.p.sto : Int) - ((build d).p.sto : Int)))) w9) := by
        rw [HP.out]
        refine ⟨V1, rfl, AMf.out.later hb9, CR.out.fr.then hb9, CR.out.fn, ?_⟩
        have := CR.out.vn; have := total_take_le d i; have := HNd.out; omega
      clear hb9 HSt
      go_wp2
      exact HFin.out
end Go.Proofs.YtpfkmjckjomeeaaDoor
