/- The walks of outline and Outline. The walk of FontSubsetKeepsText. -/
import Derived.Test.YtefkglmdkjkbiaaDoorFntTw
import Derived.Test.YtefkglmdkjkbiaaDoorFntEq
import Derived.Test.YtefkglmdkjkbiaaDoorEqualInts
import Derived.Test.YtefkglmdkjkbiaaDoorWithin
import Derived.IntWalk
namespace Go.Proofs.YtefkglmdkjkbiaaDoor
open Go.RowKit Fnt
/-- How many contours an outline may have. -/
def capO : Nat → Nat
  | 0 => 0
  | f + 1 => 8 + 4 * capO f
theorem flatM_len {α β : Type} {f : α → List β} {m : Nat} : ∀ {l : List α}, (∀ a ∈ l, (f a).length ≤ m) → (l.flatMap f).length ≤ l.length * m
  | [], _ => by simp
  | a :: l, h => by
    have := flatM_len (l := l) fun b hb => h b (by simp [hb])
    have := h a (by simp)
    rw [List.flatMap_cons, List.length_append, List.length_cons, Nat.add_mul]
    omega
theorem outl_len {F : Font} (h : FOk F) : ∀ (f g : Nat) (x y : Int), g < F.gs.length → (outl F f g x y).length ≤ capO f
  | 0, _, _, _, _ => Nat.le_refl _
  | f + 1, g, x, y, hg => by
    have ho := h.gl g hg
    have hc := ho.cs
    have hp := ho.ps
    simp only [outl, capO, List.length_append, List.length_map]
    have := flatM_len (m := capO f) (l := (gl F g).ps) (f := fun p => outl F f p.g.toNat (x + p.x) (y + p.y)) fun p hp => outl_len h f _ _ _ (h.parts g p hp).2
    have := Nat.mul_le_mul_right (capO f) hp
    omega
theorem shift_next (x y : Int) (c : List Pt) {j : Nat} (h : j < c.length) : shiftC x y (c.take (j + 1)) = shiftC x y (c.take j) ++ [⟨(pt c j).x + x, (pt c j).y + y, (pt c j).on⟩] := by
  unfold shiftC
  rw [take_next c j default h, List.map_append]; rfl
theorem contour_bd {c : List Pt} (h : contourE c = 0) : c.length ≤ 32 ∧ ∀ j, j < c.length → -2047 ≤ (pt c j).x ∧ (pt c j).x ≤ 2047 ∧ -2047 ≤ (pt c j).y ∧ (pt c j).y ≤ 2047 := by
  unfold contourE at h
  split at h
  · omega
  split at h
  · omega
  split at h
  · omega
  · refine ⟨by omega, fun j hj => ?_⟩
    have h1 := scan_zero.1 h j hj
    unfold ptE at h1
    have h2 : (far (pt c j).x || far (pt c j).y) = false := by
      cases h3 : (far (pt c j).x || far (pt c j).y) with
      | false => rfl
      | true => rw [h3, if_pos rfl] at h1; exact absurd h1 (by decide)
    rw [Bool.or_eq_false_iff] at h2
    have a := far_bd h2.1
    have b := far_bd h2.2
    exact ⟨a.1, a.2, b.1, b.2⟩
def OutPost (F : Font) (f g : Nat) (x y : Int) (B : Nat) (acc : List (List Pt)) (ov : Value) (w : World) (e : Ending) (w' : World) : Prop :=
  ∃ v, e = .returned v ∧ ConR w' B v (acc ++ outl F f g x y) ∧ FrS w.heap.size (fun k => some k = ov.ownBlock) w w' ∧ ∀ k, v.ownBlock = some k → w.heap.size ≤ k ∨ some k = ov.ownBlock
theorem ConR.form {w : World} {B : Nat} {v : Value} {cs : List (List Pt)} (h : ConR w B v cs) : ∃ A c, v = .slice A cs.length c := by
  obtain ⟨vals, h, _⟩ := h
  exact own_form h
theorem ConR.own {w : World} {B : Nat} {v : Value} {cs : List (List Pt)} (h : ConR w B v cs) : ∀ k, v.ownBlock = some k → B ≤ k ∧ k < w.heap.size := by
  obtain ⟨vals, h, _⟩ := h
  exact own_lt h
/-- Contours that grow stay where nothing but other blocks turns. -/
theorem ConR.keep {R : Nat} {S : Nat → Prop} {w w' : World} {B : Nat} {cv : Value} {cs : List (List Pt)} (h : ConR w B cv cs) (hf : FrS R S w w') (hw : w.heap.size ≤ R) (hS : ∀ k, S k → False) : ConR w' B cv cs :=
  h.fr hf hw fun k hk => (hS k hk).elim
set_option maxRecDepth 100000 in
set_option maxHeartbeats 8000000 in
theorem outl_any (F : Font) (hF : FOk F) (fv : Value) (ok : Nat → Prop) (B : Nat) (hob : ∀ b, ok b → b < B) :
    ∀ (f g : Nat) (x y : Int) (acc : List (List Pt)) (ov : Value) (w : World), FntV w ok fv F → ConR w B ov acc → B ≤ w.heap.size → g < F.gs.length → rk F g < f →
      -100000 + 2047 * (f : Int) ≤ x → x ≤ 100000 - 2047 * (f : Int) → -100000 + 2047 * (f : Int) ≤ y → y ≤ 100000 - 2047 * (f : Int) → acc.length + capO f ≤ 1000000 →
      Calls Tryd.prog 52 #[fv, .int .i64 g, .int .i64 x, .int .i64 y, ov] w (OutPost F f g x y B acc ov w) := by
  intro f
  induction f with
  | zero => intro g x y acc ov w _ _ _ _ h; omega
  | succ f ih =>
    intro g x y acc ov w hf hcr hB hg hrk hx0 hx1 hy0 hy1 hcap
    have hci : capO (f + 1) = 8 + 4 * capO f := rfl
    rw [hci] at hcap
    clear hci
    have hown := hcr.own
    have HFv : Hid (∀ w', FrS w.heap.size (fun k => some k = ov.ownBlock) w w' → FntV w' ok fv F) := fun w' h => hf.keep h.size fun b ho hl => h.block b hl fun e => by have := (hown b e.symm).1; have := hob b ho; omega
    have HOw := Lib.hid hown
    have HPost : Hid (∀ v w', ConR w' B v (acc ++ outl F (f + 1) g x y) → FrS w.heap.size (fun k => some k = ov.ownBlock) w w' → (∀ k, v.ownBlock = some k → w.heap.size ≤ k ∨ some k = ov.ownBlock) → OutPost F (f + 1) g x y B acc ov w (.returned v) w') := fun v w' a b c => ⟨v, rfl, a, b, c⟩
    generalize OutPost F (f + 1) g x y B acc ov w = Q at *
    have HEo : Hid (outl F (f + 1) g x y = (gl F g).cs.map (shiftC x y) ++ (gl F g).ps.flatMap fun p => outl F f p.g.toNat (x + p.x) (y + p.y)) := rfl
    have hgo := hF.gl g hg
    have hcn := hgo.cs
    have hpn := hgo.ps
    have HCo := Lib.hid hgo.con
    have HPar := Lib.hid (hF.parts g)
    have HPrk := Lib.hid (rk_facts hF g hg).2
    have HPfar : Hid (∀ p ∈ (gl F g).ps, -2047 ≤ p.x ∧ p.x ≤ 2047 ∧ -2047 ≤ p.y ∧ p.y ≤ 2047) := fun p hp => by
      obtain ⟨_, _, a, b⟩ := hgo.par p hp
      have := far_bd a
      have := far_bd b
      omega
    obtain ⟨Ag, cg, Am, cm, Ak, ck, rfl, _, _⟩ := fnt_form hf
    have hb1 := (FrS.refl w.heap.size (fun k => some k = ov.ownBlock) w).alloc (Nat.le_refl _) (.cells #[.int .i64 F.unit, .slice Ag F.gs.length cg, .slice Am F.map.length cm, .slice Ak F.kern.length ck] 26)
    have hk1 := Blk.new w 26 #[.int .i64 F.unit, .slice Ag F.gs.length cg, .slice Am F.map.length cm, .slice Ak F.kern.length ck]
    have hc1 := hcr.keep ((FrS.refl w.heap.size (fun _ => False) w).alloc (Nat.le_refl _) (.cells #[.int .i64 F.unit, .slice Ag F.gs.length cg, .slice Am F.map.length cm, .slice Ak F.kern.length ck] 26)) (Nat.le_refl _) fun _ h => h
    have hs1 : Hid ((w.alloc (.cells #[.int .i64 F.unit, .slice Ag F.gs.length cg, .slice Am F.map.length cm, .slice Ak F.kern.length ck] 26)).heap.size = w.heap.size + 1) := by unfold Hid; simp
    obtain ⟨Ao, co, eo⟩ := hcr.form
    have hf1 := HFv.out _ hb1
    obtain ⟨vg, vm, vk, ev, hgls, _, _⟩ := hf1
    injection ev with ev
    simp only [Array.mk.injEq, List.cons.injEq, and_true] at ev
    obtain ⟨-, ev, -, -⟩ := ev
    subst ev
    obtain ⟨bg, og, capg, vs, eg, hokg, lbg, -, -, hgc⟩ := Gls.cells hgls (by omega)
    injection eg with e1 e2 e3
    subst e1 e3
    clear e2
    obtain ⟨g0, g1, g2, hcs, hps⟩ := hgc g hg
    have hgd : F.gs.getD g default = gl F g := rfl
    rw [hgd] at g0 hcs hps
    obtain ⟨Acs, ccs, ecs, hq1, hq2⟩ := hcs.form
    obtain ⟨Aps, cps, eps, hq3, hq4⟩ := hps.form
    generalize (vs g).1 = vcs at *
    generalize (vs g).2 = vps at *
    subst ecs eps
    have hbgB := hob bg hokg
    have HCs := Lib.hid hcs
    have HPs := Lib.hid hps
    generalize (gl F g).cs = gcs at *
    generalize (gl F g).ps = gps at *
    generalize hnc : gcs.length = nc at *
    generalize hnp : gps.length = np at *
    have HNc := Lib.hid hnc
    have HNp := Lib.hid hnp
    generalize hNg : F.gs.length = N at *
    have HNg := Lib.hid hNg
    have hgN : (g : Int) < (N : Int) := by omega
    have hg0 : 0 ≤ (g : Int) := by omega
    have HIh := Lib.hid ih
    have HCr1 := Lib.hid hc1
    have HB1 := Lib.hid hb1
    have HK1 := Lib.hid hk1
    have k1 := hk1.cell 1
    simp only [List.getElem?_toArray, List.getElem?_cons_zero, List.getElem?_cons_succ] at k1
    have lk1 := hk1.lt
    clear hnc hnp hNg hgo hcs hps hgc hgls hb1 hk1 hc1 hcr hf hown ih hgd
    go_enter Tryd.func52, Tryd.ntmps52
    go_wp2_with fail
    generalize hw1 : w.alloc (.cells #[.int .i64 F.unit, .slice (some ⟨bg, og, none⟩) N cg, .slice Am F.map.length cm, .slice Ak F.kern.length ck] 26) = w1 at *
    clear hw1
    have hs1' := hs1.out
    have HOwB : Hid (∀ k, ov.ownBlock = some k → B ≤ k ∧ k < w.heap.size) := HOw.out
    go_loopw [4, 12, 13, 15, 25, 31] (fun v4 _ _ _ vi _ wq => True ∧ ∃ i : Nat, i ≤ nc ∧ vi = .int .i64 i ∧ ConR wq B v4 (acc ++ (gcs.take i).map (shiftC x y)) ∧ FrS w1.heap.size (fun k => some k = ov.ownBlock) w1 wq ∧ ∀ k, v4.ownBlock = some k → w1.heap.size ≤ k ∨ some k = ov.ownBlock) (fun _ _ _ _ i _ _ => nc - (intOf i).toNat)
    case atStart => exact ⟨trivial, 0, by omega, rfl, by simpa using HCr1.out, FrS.refl _ _ _, fun k hk => .inr hk.symm⟩
    case round =>
      obtain ⟨-, i, hi, rfl, hcr, hfr, how⟩ := hrel
      have HCr := Lib.hid hcr
      have HFr := Lib.hid hfr
      have HOq := Lib.hid how
      have hsr := hfr.size
      have hkeep : Hid (∀ b, b < B → wr.heap[b]? = w1.heap[b]?) := fun b hb => hfr.block b (by omega) fun e => by have := (HOw.out b e.symm).1; omega
      have hkb : Hid (Blk wr w.heap.size 26 _) := hfr.blk HK1.out (by omega) fun e => by have := (HOw.out _ e.symm).2; omega
      obtain ⟨Ao, co, eo⟩ := hcr.form
      subst eo
      have hal : (acc ++ (gcs.take i).map (shiftC x y)).length = acc.length + i := by
        rw [List.length_append, List.length_map, List.length_take, HNc.out]; omega
      rw [hal] at HCr HOq ⊢
      by_cases hlt : i < nc
      · obtain ⟨bc, oc, capc, us, ec, hokc, lbc, -, -, hcc⟩ := Cons.cells HCs.out (by rw [HNc.out]; omega)
        injection ec with e1 e2 e3
        subst e1 e3
        clear e2
        obtain ⟨q0, hqp⟩ := hcc i (by rw [HNc.out]; exact hlt)
        have hbcB := hob bc hokc
        replace q0 := (World.cell?_of_block (w := w1) (w' := wr) (a := ⟨bc, oc + i, none⟩) (hkeep.out bc hbcB)).trans q0
        have lbc' : bc < wr.heap.size := by omega
        have hmem : gcs.getD i [] ∈ gcs := by rw [List.getD_eq_getElem?_getD, List.getElem?_eq_getElem (by rw [HNc.out]; exact hlt)]; exact List.getElem_mem _
        obtain ⟨hcl, hcb⟩ := contour_bd (HCo.out _ hmem)
        have HTi : Hid (gcs.take (i + 1) = gcs.take i ++ [gcs.getD i []]) := Fnt.take_next gcs i [] (by rw [HNc.out]; exact hlt)
        obtain ⟨Au, cu, eu⟩ := SlM.form hqp
        generalize us i = uj at *
        subst eu
        generalize gcs.getD i [] = c at *
        have HCb := Lib.hid hcb
        have HQp := Lib.hid hqp
        generalize hcn' : c.length = n at *
        have HCn := Lib.hid hcn'
        obtain ⟨wv, rfl⟩ : ∃ x, x = wr := ⟨_, rfl⟩
        have hvo := HCr.out.own
        have HVo := Lib.hid hvo
        clear hcr hfr how hmem hqp hcb hcc hcn' hvo
        go_wp2_with fail
        go_loopw [13, 15, 31] (fun v13 _ vj wq => True ∧ ∃ j : Nat, j ≤ n ∧ vj = .int .i64 j ∧ wq.ownsRow wv.heap.size 64 3 v13 j ((shiftC x y (c.take j)).flatMap ptc) ∧ FrS wv.heap.size (fun _ => False) wv wq) (fun _ _ j _ => n - (intOf j).toNat)
        case atStart => exact ⟨trivial, 0, by omega, rfl, World.ownsRow_nil _ _ _ _, FrS.refl _ _ _⟩
        case round =>
          obtain ⟨-, j, hj, rfl, hpo, hfp⟩ := hrel
          obtain ⟨Al, cl, el⟩ := own_form hpo
          subst el
          have HPo := Lib.hid hpo
          have HFp := Lib.hid hfp
          have hsp := hfp.size
          by_cases hlt2 : j < n
          · obtain ⟨bp, op, capp, ep, hokp, lbp, -, -, hpc⟩ := Pts.cells HQp.out (by rw [HCn.out]; omega)
            injection ep with e1 e2 e3
            subst e1 e3
            clear e2
            obtain ⟨p0, p1, p2⟩ := hpc j (by rw [HCn.out]; exact hlt2)
            have hbpB := hob bp hokp
            have hk2 : wr.heap[bp]? = w1.heap[bp]? := (hfp.block bp (by omega) fun h => h).trans (hkeep.out bp hbpB)
            replace p0 := (World.cell?_of_block (w := w1) (w' := wr) (a := ⟨bp, op + j * 3, none⟩) hk2).trans p0
            replace p1 := (World.cell?_of_block (w := w1) (w' := wr) (a := ⟨bp, op + j * 3 + 1, none⟩) hk2).trans p1
            replace p2 := (World.cell?_of_block (w := w1) (w' := wr) (a := ⟨bp, op + j * 3 + 2, none⟩) hk2).trans p2
            have lbp' : bp < wr.heap.size := by omega
            obtain ⟨x0, x1, y0, y1⟩ := HCb.out j hlt2
            have HTj : Hid (shiftC x y (c.take (j + 1)) = shiftC x y (c.take j) ++ [⟨(pt c j).x + x, (pt c j).y + y, (pt c j).on⟩]) := shift_next x y c (by rw [HCn.out]; exact hlt2)
            generalize pt c j = p at *
            obtain ⟨px, py, pn⟩ := p
            dsimp only at p0 p1 p2 x0 x1 y0 y1 HTj
            have hp20 := Blk.new wr 64 #[.int .i64 px, .int .i64 py, .bool pn]
            have ho20 := hpo.alloc (.cells #[.int .i64 px, .int .i64 py, .bool pn] 64)
            have hf20 := hfp.alloc hsp (.cells #[.int .i64 px, .int .i64 py, .bool pn] 64)
            have hs20 : Hid ((wr.alloc (.cells #[.int .i64 px, .int .i64 py, .bool pn] 64)).heap.size = wr.heap.size + 1) := by unfold Hid; simp
            have HP20 := Lib.hid hp20
            have HO20 := Lib.hid ho20
            have HF20 := Lib.hid hf20
            clear hpc hk2 hp20 ho20 hf20 hpo hfp
            go_wp2_with (at_builtin; go_must (refine wpList_pushk ePt rfl (.tmp 35) (.tmp 47) rfl wv.heap.size (.slice Al j cl) j _ rfl (HO20.out.alloc _) ⟨wr.heap.size + 1, 0, none⟩ 1 [.int .i64 (px + x), .int .i64 (py + y), .bool pn] rfl rfl (news_new _ _ _ _ (by rw [hs20.out])) (by simp [Value.oneCell']) (by omega) (by omega) (by omega) (by have := hs20.out; simp; omega) ?_); go_must (intro v' w22 hown22 hgr22 _; have HO22 := Lib.hid hown22; have HG22 := Lib.hid hgr22; clear hown22 hgr22))
            go_roundw
            case rel =>
              refine ⟨trivial, j + 1, by omega, by go_num, ?_, ?_⟩
              · rw [HTj.out, List.flatMap_append]
                simpa [ptc] using HO22.out
              · exact (HF20.out.alloc (by have := hs20.out; omega) _).grown HG22.out (by have := hs20.out; simp; omega) fun k hk => .inl (own_lt HO20.out k hk).1
            case measure => simp [intOf]; omega
          · obtain rfl : n = j := by omega
            have htk : c.take n = c := List.take_of_length_le (by rw [HCn.out]; exact Nat.le_refl _)
            rw [htk] at HPo
            obtain ⟨vals, hco, hcp⟩ := HCr.out
            rw [hal] at hco
            have HPl : Hid (Pts wr (fun k => wv.heap.size ≤ k) (.slice Al n cl) (shiftC x y c)) := by
              have h := (SlM.of_own HPo.out).mono (ok' := fun k => wv.heap.size ≤ k) fun k _ h => h.2
              unfold Hid Pts
              rw [show (shiftC x y c).length = n by unfold shiftC; rw [List.length_map, HCn.out]]; exact h
            have HCo2 := Lib.hid (hfp.own hco fun k hk => ⟨(own_lt hco k hk).2, fun h => h⟩)
            have HCw := Lib.hid hco
            have HCp := Lib.hid hcp
            have hsB : B ≤ wv.heap.size := by omega
            clear hpo hfp hco hcp htk
            go_wp2_with (at_builtin; go_must (refine wpList_push eCo rfl (.tmp 50) (.tmp 52) rfl B (.slice Ao (acc.length + i) co) (acc.length + i) vals rfl (HCo2.out.alloc _) ⟨wr.heap.size, 0, none⟩ 1 (.slice Al n cl) rfl (new_one _ _ _) rfl (by omega) (by omega) (by simp; omega) ?_); go_must (intro v' w24 hown24 hgr24 hk24; have HO24 := Lib.hid hown24; have HK24 := Lib.hid hk24; have HG24 := Lib.hid hgr24; clear hown24 hgr24 hk24))
            go_roundw
            case rel =>
              refine ⟨trivial, i + 1, by omega, by go_num, ?_, ?_, ?_⟩
              · rw [HTi.out, List.map_append, ← List.append_assoc]
                exact ConR.push (c := shiftC x y c) HCp.out (by rw [hal]; exact HCw.out) hsB HFp.out (fun k hk => hk.elim) HPl.out (by rw [hal]; exact HO24.out) HG24.out HK24.out
              · exact ((HFr.out.trans (HFp.out.weak hsr fun k _ h => h.elim)).alloc (by omega) _).grown HG24.out (by simp; omega) fun k hk => by
                  rcases HOq.out k hk with h | h
                  · exact .inl h
                  · exact .inr h
              · intro k hk
                rcases HK24.out with e | e
                · exact HOq.out k (e ▸ hk)
                · have : k = (wr.alloc (.cells #[.slice Al n cl] 61)).heap.size := by rw [e] at hk; exact (Option.some.inj hk).symm
                  refine .inl ?_
                  rw [this]; simp; omega
            case measure => simp [intOf]; omega
      · obtain rfl : nc = i := by omega
        have htk : gcs.take nc = gcs := List.take_of_length_le (by rw [HNc.out]; exact Nat.le_refl _)
        rw [htk] at hal HCr
        obtain ⟨wv, rfl⟩ : ∃ x, x = wr := ⟨_, rfl⟩
        have kb1 := hkb.out.cell 1
        simp only [List.getElem?_toArray, List.getElem?_cons_zero, List.getElem?_cons_succ] at kb1
        have lkb : w.heap.size < wv.heap.size := by omega
        have g2' := (World.cell?_of_block (w := w1) (w' := wv) (a := ⟨bg, og + g * 3 + 2, none⟩) (hkeep.out bg hbgB)).trans g2
        have lbg' : bg < wv.heap.size := by omega
        have hcl8 : acc.length + nc ≤ acc.length + 8 := by omega
        clear hcr hfr how
        go_wp2_with fail
        go_loopw [4, 17, 62] (fun v4 _ vj wq => True ∧ ∃ j : Nat, j ≤ np ∧ vj = .int .i64 j ∧ ConR wq B v4 (acc ++ gcs.map (shiftC x y) ++ (gps.take j).flatMap fun p => outl F f p.g.toNat (x + p.x) (y + p.y)) ∧ FrS w1.heap.size (fun k => some k = ov.ownBlock) w1 wq ∧ ∀ k, v4.ownBlock = some k → w1.heap.size ≤ k ∨ some k = ov.ownBlock) (fun _ _ j _ => np - (intOf j).toNat)
        case atStart => exact ⟨trivial, 0, by omega, rfl, by simpa using HCr.out, HFr.out, HOq.out⟩
        case round =>
          obtain ⟨-, j, hj, rfl, hcr, hfr, how⟩ := hrel
          have HCr2 := Lib.hid hcr
          have HFr2 := Lib.hid hfr
          have HOq2 := Lib.hid how
          have hsr2 := hfr.size
          obtain ⟨A2, c2, e2⟩ := hcr.form
          generalize hnl : (acc ++ gcs.map (shiftC x y) ++ (gps.take j).flatMap fun p => outl F f p.g.toNat (x + p.x) (y + p.y)).length = nl at *
          subst e2
          by_cases hlt2 : j < np
          · obtain ⟨bp, op, capp, ep, hokp, lbp, -, -, hpc⟩ := Pas.cells HPs.out (by rw [HNp.out]; omega)
            injection ep with e1 e2 e3
            subst e1 e3
            clear e2
            obtain ⟨p0, p1, p2⟩ := hpc j (by rw [HNp.out]; exact hlt2)
            have hbpB := hob bp hokp
            have hk2 : wr.heap[bp]? = w1.heap[bp]? := hfr.block bp (by omega) fun e => by have := (HOw.out bp e.symm).1; omega
            replace p0 := (World.cell?_of_block (w := w1) (w' := wr) (a := ⟨bp, op + j * 3, none⟩) hk2).trans p0
            replace p1 := (World.cell?_of_block (w := w1) (w' := wr) (a := ⟨bp, op + j * 3 + 1, none⟩) hk2).trans p1
            replace p2 := (World.cell?_of_block (w := w1) (w' := wr) (a := ⟨bp, op + j * 3 + 2, none⟩) hk2).trans p2
            have lbp' : bp < wr.heap.size := by omega
            have hmem : gps.getD j default ∈ gps := by rw [List.getD_eq_getElem?_getD, List.getElem?_eq_getElem (by rw [HNp.out]; exact hlt2)]; exact List.getElem_mem _
            obtain ⟨pg0, pg1⟩ := HPar.out _ hmem
            obtain ⟨x0, x1, y0, y1⟩ := HPfar.out _ hmem
            have prk := HPrk.out _ hmem
            have HTj : Hid (gps.take (j + 1) = gps.take j ++ [gps.getD j default]) := Fnt.take_next gps j default (by rw [HNp.out]; exact hlt2)
            have hfl : ((gps.take j).flatMap fun p => outl F f p.g.toNat (x + p.x) (y + p.y)).length ≤ 3 * capO f := by
              refine Nat.le_trans (flatM_len (m := capO f) fun p hp => outl_len hF f _ _ _ ?_) (Nat.mul_le_mul_right _ (by rw [List.length_take]; omega))
              have := (HPar.out p (List.mem_of_mem_take hp)).2
              rw [HNg.out]; exact this
            have hnl2 : nl + capO f ≤ 1000000 := by
              rw [← hnl, List.length_append, List.length_append, List.length_map, HNc.out]; omega
            generalize gps.getD j default = p at *
            obtain ⟨pgz, px, py⟩ := p
            dsimp only at p0 p1 p2 pg0 pg1 x0 x1 y0 y1 prk
            obtain ⟨pg, rfl⟩ : ∃ q : Nat, pgz = (q : Int) := ⟨_, (Int.toNat_of_nonneg pg0).symm⟩
            rw [Int.toNat_natCast] at pg1 prk
            have hf20 := (hfr.alloc hsr2 (.cells #[.int .i64 pg, .int .i64 px, .int .i64 py] 103))
            have hfw := HB1.out.trans (hf20.weak (R' := w.heap.size) (by omega) fun _ _ h => h)
            have hV20 := HFv.out _ hfw
            have hc20 := hcr.keep ((FrS.refl wr.heap.size (fun _ => False) wr).alloc (Nat.le_refl _) (.cells #[.int .i64 pg, .int .i64 px, .int .i64 py] 103)) (Nat.le_refl _) fun _ h => h
            have hk20 := hf20.blk HK1.out (by omega) fun e => by have := (HOw.out _ e.symm).2; omega
            have hs20 : Hid ((wr.alloc (.cells #[.int .i64 pg, .int .i64 px, .int .i64 py] 103)).heap.size = wr.heap.size + 1) := by unfold Hid; simp
            have HCall := Lib.hid (HIh.out pg (x + px) (y + py) _ _ _ hV20 hc20 (by have := hs20.out; omega) (by omega) (by omega) (by omega) (by omega) (by omega) (by omega) (by rw [hnl]; exact hnl2))
            have HF20 := Lib.hid hf20
            have kk0 := hk20.cell 0
            have kk1 := hk20.cell 1
            have kk2 := hk20.cell 2
            have kk3 := hk20.cell 3
            simp only [List.getElem?_toArray, List.getElem?_cons_zero, List.getElem?_cons_succ] at kk0 kk1 kk2 kk3
            have lkr : w.heap.size < wr.heap.size := by omega
            unfold OutPost at HCall
            clear hpc hk2 hmem hcr hfr how hf20 hfw hV20 hc20 hk20 hnl hfl hnl2
            go_wp2_with (go_at_call 52; refine HCall.out.mono ?_; rintro e w21 ⟨v21, rfl, hc21, hf21, ho21⟩; have HC21 := Lib.hid hc21; have HF21 := Lib.hid hf21; have HO21 := Lib.hid ho21; obtain ⟨n21, A21, c21, e21⟩ : ∃ n A c, v21 = .slice A n c := ⟨_, hc21.form⟩; subst e21; clear hc21 hf21 ho21)
            go_roundw
            case rel =>
              refine ⟨trivial, j + 1, by omega, by go_num, ?_, ?_, ?_⟩
              · rw [HTj.out, List.flatMap_append, ← List.append_assoc]
                have := HC21.out
                simpa using this
              · exact HF20.out.trans (HF21.out.weak (by have := hs20.out; omega) fun k hk e => by
                  rcases HOq2.out k e.symm with h | h
                  · omega
                  · exact h)
              · intro k hk
                rcases HO21.out k hk with h | h
                · exact .inl (by have := hs20.out; omega)
                · exact HOq2.out k h.symm
            case measure => simp [intOf]; omega
          · obtain rfl : np = j := by omega
            have htp : gps.take np = gps := List.take_of_length_le (by rw [HNp.out]; exact Nat.le_refl _)
            rw [htp, List.append_assoc, ← HEo.out] at HCr2
            clear hcr hfr how hnl
            go_wp2_with fail
            exact HPost.out _ _ HCr2.out (HB1.out.trans (HFr2.out.weak (by omega) fun _ _ h => h)) fun k hk => by
              rcases HOq2.out k hk with h | h
              · exact .inl (by omega)
              · exact .inr h
set_option maxRecDepth 100000 in
set_option maxHeartbeats 8000000 in
/-- Outline of a font without error. -/
theorem outline_ok (F : Font) (fv : Value) (ok : Nat → Prop) (w : World) (g : Nat) (hf : FntV w ok fv F) (hT : Tab w) (h0 : 0 < w.heap.size) (hc : checkE F = 0) (hg : g < F.gs.length) :
    Calls Tryd.prog 21 #[fv, .int .i64 g] w fun e w' => ∃ ov, e = .returned (.tuple #[ov, .int .i64 0]) ∧ Cons w' (fun k => w.heap.size ≤ k) ov (outl F 5 g 0 0) ∧ Below w.heap.size w w' := by
  have hF := fok hc
  have HFv : Hid (∀ W, Below w.heap.size w W → FntV W (fun b => b < w.heap.size) fv F) := fun W hb => (hf.mono (ok' := fun b => b < w.heap.size) fun b hl _ => hl).later hb
  have HTw : Hid (∀ W, Below w.heap.size w W → Tab W ∧ 0 < W.heap.size) := fun W hb => ⟨fun i hi => (hb.cell (p := ⟨0, i, none⟩) h0).trans (hT i hi), Nat.lt_of_lt_of_le h0 hb.size⟩
  have hb1 : ∀ o, Below w.heap.size w (w.alloc o) := fun o => (Below.refl _ _).alloc (Nat.le_refl _) o
  have hn := hF.n1
  obtain ⟨Ag, cg, Am, cm, Ak, ck, rfl, _, _⟩ := fnt_form hf
  have hb1 := (Below.refl w.heap.size w).alloc (Nat.le_refl _) (.cells #[.int .i64 F.unit, .slice Ag F.gs.length cg, .slice Am F.map.length cm, .slice Ak F.kern.length ck] 26)
  have hk1 := Blk.new w 26 #[.int .i64 F.unit, .slice Ag F.gs.length cg, .slice Am F.map.length cm, .slice Ak F.kern.length ck]
  have HC1 := Lib.hid (check_any F _ _ _ (HFv.out _ hb1) (HTw.out _ hb1).1 (HTw.out _ hb1).2)
  rw [hc] at HC1
  generalize hw1 : w.alloc (.cells #[.int .i64 F.unit, .slice Ag F.gs.length cg, .slice Am F.map.length cm, .slice Ak F.kern.length ck] 26) = w1 at *
  have HB1 := Lib.hid hb1
  have HK1 := Lib.hid hk1
  have HW1 := Lib.hid hw1
  have HRk := Lib.hid (rk_facts hF g hg).1
  have HO := Lib.hid fun W B (hb : Below w.heap.size w W) (hB : w.heap.size ≤ B) (hBW : B ≤ W.heap.size) => outl_any F hF _ (fun b => b < w.heap.size) B (fun b h => by omega) 5 g 0 0 [] (.slice none 0 0) W (HFv.out W hb) (ConR.nil _ _) hBW hg HRk.out (by omega) (by omega) (by omega) (by omega) (by show 0 + 2728 ≤ 1000000; omega)
  have hgN : (g : Int) < (F.gs.length : Int) := by omega
  clear hb1 hk1 hw1 hf hT
  unfold OutPost at HO
  go_enter Tryd.func21, Tryd.ntmps21
  go_wp2_with fail
  rw [HW1.out]
  refine HC1.out.mono ?_
  rintro e w2 ⟨rfl, hb2⟩
  have HB2 := Lib.hid (HB1.out.trans (hb2.mono HB1.out.size))
  have hk2 := HK1.out.below hb2 HK1.out.lt
  have k0 := hk2.cell 0
  have k1 := hk2.cell 1
  have k2 := hk2.cell 2
  have k3 := hk2.cell 3
  simp only [List.getElem?_toArray, List.getElem?_cons_zero, List.getElem?_cons_succ] at k0 k1 k2 k3
  have l2 := hk2.lt
  have HO2 := Lib.hid (HO.out w2 w2.heap.size HB2.out HB2.out.size (Nat.le_refl _))
  clear hb2 hk2
  go_wp2_with fail
  refine HO2.out.mono ?_
  rintro e w3 ⟨v3, rfl, hc3, hf3, _⟩
  have hcc := hc3.cons
  rw [List.nil_append] at hcc
  obtain ⟨A3, c3, e3, _, _⟩ := hcc.form
  subst e3
  have HCc := Lib.hid hcc
  have HF3 := Lib.hid hf3
  clear hc3 hf3 hcc
  go_wp2_with fail
  refine bodyPost_ret (v := .tuple #[.slice A3 (outl F 5 g 0 0).length c3, .int .i64 0]) (by simp [results, Tryd.results21, go_sem]) rfl ?_
  exact ⟨_, rfl, HCc.out.mono fun k _ h => Nat.le_trans HB2.out.size h, HB2.out.trans ((HF3.out.below (Nat.le_refl _) fun k e => by cases e).mono HB2.out.size)⟩
end Go.Proofs.YtefkglmdkjkbiaaDoor
namespace Go.Proofs.YtefkglmdkjkbiaaDoor
open Go.RowKit Fnt
theorem let_find : find LET 98 = 2 := by decide +kernel
theorem let_cs : Cs LET [98] [98] := ⟨List.pairwise_singleton _ _, fun c => by
  rw [List.mem_singleton]
  constructor
  · intro h; rw [h, let_find]; exact ⟨rfl, by decide⟩
  · exact fun h => h.1⟩
theorem let_sub : checkE (subF LET [98]) = 0 := by decide +kernel
theorem let_old : oldOf (keepOf LET [98]) = [0, 2] := by decide +kernel
theorem let_two : (subF LET [98]).gs.length = 2 := by decide +kernel
theorem let_98 {q : Font × List Nat × Int} (h : SubIs LET [98] q) : q = (subF LET [98], [0, 2], 0) := by
  unfold SubIs at h
  rw [if_neg (fun h => h let_check), if_neg (by decide)] at h
  obtain ⟨cs, hc, rfl⟩ := h
  obtain rfl := cs_unique hc let_cs
  unfold subA
  rw [if_pos let_sub, let_old]
theorem sub_err {F : Font} {codes : List Int} {r : Font × List Nat × Int} (h : SubIs F codes r) (h0 : r.2.2 ≠ 0) : r.2.1 = [] := by
  unfold SubIs at h
  split at h
  · rw [h]
  · split at h
    · rw [h]
    · obtain ⟨cs, _, rfl⟩ := h
      unfold subA at h0 ⊢
      split
      · rename_i h2; rw [if_pos h2] at h0; exact absurd rfl h0
      · rfl
theorem own_pls {F : Font} {gs : List Int} {base n m c : Nat} {A : Option Addr} {w : World} (h : w.ownsRow base 37 3 (.slice A m c) n ((List.range n).flatMap (plc F gs))) (hn : 0 < n) :
    ∃ g, A = some ⟨g, 0, none⟩ ∧ g < w.heap.size ∧ ∀ i, i < n → w.cell? ⟨g, i * 3, none⟩ = some (.int .i64 (gs.getD i 0)) ∧ w.cell? ⟨g, i * 3 + 1, none⟩ = some (.int .i64 (pla F gs i)) := by
  obtain ⟨g, cap, ev, _, hl, hcell, _⟩ := own_cells h hn
  injection ev with e1 _ _
  refine ⟨g, e1, hl, fun i hi => ?_⟩
  have e : (List.range n).getD i 0 = i := by rw [List.getD_eq_getElem?_getD, List.getElem?_range hi]; rfl
  exact ⟨hcell (i * 3 + 0) _ (by rw [flat_at (f := plc F gs) (m := 3) (fun _ => rfl) 0 _ i 0 (by simpa using hi) (by omega), e]; rfl), hcell (i * 3 + 1) _ (by rw [flat_at (f := plc F gs) (m := 3) (fun _ => rfl) 0 _ i 1 (by simpa using hi) (by omega), e]; rfl)⟩
set_option maxRecDepth 100000 in
set_option maxHeartbeats 8000000 in
theorem keeps_any (F : Font) (fv cv : Value) (codes : List Int) (which : Int) (w : World) (hf : FntV w (fun _ => True) fv F) (hc : Sl w (fun _ => True) cv (ints codes)) (hT : Tab w) (h0 : 0 < w.heap.size) :
    Calls Tryd.prog 7 #[fv, cv, .int .i64 which] w fun e w' => e = .returned (.bool true) ∧ Below w.heap.size w w' := by
  have HTw : Hid (∀ ww, Below w.heap.size w ww → Tab ww ∧ 0 < ww.heap.size) := fun ww hb => ⟨fun i hi => (hb.cell (p := ⟨0, i, none⟩) h0).trans (hT i hi), Nat.lt_of_lt_of_le h0 hb.size⟩
  have HFo := Lib.hid fun W (hb : Below w.heap.size w W) => fonts_any W (HTw.out W hb).1 (HTw.out W hb).2
  have HS1 := Lib.hid fun W (hb : Below w.heap.size w W) => sub_any F fv codes cv _ _ W (hf.later hb) (hc.later hb) (HTw.out W hb).1 (HTw.out W hb).2
  have HSL := Lib.hid fun G v cv' ok okc W (hb : Below w.heap.size w W) (h : FntV W ok v G) (h2 : Sl W okc cv' (ints [98])) => sub_any G v [98] cv' okc ok W h h2 (HTw.out W hb).1 (HTw.out W hb).2
  have HPl := Lib.hid fun G v ok W (hb : Below w.heap.size w W) (h : FntV W ok v G) (hc0 : checkE G = 0) (hl : codes.length ≤ 1024) => places_ok G v codes cv _ _ W h (hc.later hb) (HTw.out W hb).1 (HTw.out W hb).2 hc0 hl
  have HOu := Lib.hid fun G v ok W g (hb : Below w.heap.size w W) (h : FntV W ok v G) (hc0 : checkE G = 0) (hg : g < G.gs.length) => outline_ok G v ok W g h (HTw.out W hb).1 (HTw.out W hb).2 hc0 hg
  have HFv := Lib.hid fun W (hb : Below w.heap.size w W) => hf.later hb
  obtain ⟨Ac, cc, rfl⟩ := hc.form
  obtain ⟨Ag, cg, Am, cm, Ak, ck, rfl, _, _⟩ := fnt_form hf
  have hb1 := (Below.refl w.heap.size w).alloc (Nat.le_refl _) (.cells #[.int .i64 F.unit, .slice Ag F.gs.length cg, .slice Am F.map.length cm, .slice Ak F.kern.length ck] 26)
  have hk1 := Blk.new w 26 #[.int .i64 F.unit, .slice Ag F.gs.length cg, .slice Am F.map.length cm, .slice Ak F.kern.length ck]
  generalize hw1 : w.alloc (.cells #[.int .i64 F.unit, .slice Ag F.gs.length cg, .slice Am F.map.length cm, .slice Ak F.kern.length ck] 26) = w1 at *
  have HB1 := Lib.hid hb1
  have HK1 := Lib.hid hk1
  have HW1 := Lib.hid hw1
  have HLt := Lib.hid (letters_any w1)
  have lw1 := hk1.lt
  clear hb1 hk1 hf hT hc hw1
  unfold SubPost at HS1 HSL
  unfold LetPost at HLt
  unfold PlsOk at HPl
  go_enter Tryd.func7, Tryd.ntmps7
  go_wp2_with fail
  rw [HW1.out]
  refine HLt.out.mono ?_
  rintro e w2 ⟨v2, rfl, hv2, hb2⟩
  obtain ⟨Bg, dg, Bm, dm, Bk, dk, rfl, _, _⟩ := fnt_form hv2
  have hb12 := HB1.out.trans (hb2.mono HB1.out.size)
  have hb3 := hb12.alloc hb12.size (.cells #[.int .i64 98] 3)
  have hb23 := (Below.refl w2.heap.size w2).alloc (Nat.le_refl _) (.cells #[.int .i64 98] 3)
  have hs3 := new_sl w2 3 (ints [98]) (by unfold maxLen; simp [ints])
  have HS3 := Lib.hid (HSL.out LET _ _ _ _ _ hb3 (hv2.later hb23) hs3)
  have hk3 := (HK1.out.below hb2 HK1.out.lt).below hb23 (Nat.lt_of_lt_of_le HK1.out.lt hb2.size)
  have HB3 := Lib.hid hb3
  have HK3 := Lib.hid hk3
  clear hv2 hb2 hb12 hb3 hb23 hs3 hk3
  go_wp2_with fail
  refine HS3.out.mono ?_
  rintro e w4 ⟨q, v4, o4, hq, rfl, hv4, ho4, hb4⟩
  obtain rfl := let_98 hq
  dsimp only at *
  obtain ⟨Cg, eg, Cm, em, Ck, ek, rfl, _, _⟩ := fnt_form hv4
  obtain ⟨A4, c4, e4⟩ := ho4.form
  rw [show (ints ([0, 2].map Int.ofNat)).length = 2 from rfl] at e4
  subst e4
  rw [let_two]
  have hb34 := HB3.out.trans (hb4.mono HB3.out.size)
  have hk4 := HK3.out.below hb4 HK3.out.lt
  have HO4 := Lib.hid ho4
  have HB4 := Lib.hid hb34
  have HK4 := Lib.hid hk4
  generalize (subF LET [98]).unit = un0 at *
  generalize (subF LET [98]).map.length = nm0 at *
  generalize (subF LET [98]).kern.length = nk0 at *
  clear hv4 ho4 hb34 hk4 hb4 hq
  have hs5 := Blk.new w4 26 #[.int .i64 un0, .slice Cg 2 eg, .slice Cm nm0 em, .slice Ck nk0 ek]
  have hb5 := HB4.out.alloc HB4.out.size (.cells #[.int .i64 un0, .slice Cg 2 eg, .slice Cm nm0 em, .slice Ck nk0 ek] 26)
  have hb45 := (Below.refl w4.heap.size w4).alloc (Nat.le_refl _) (.cells #[.int .i64 un0, .slice Cg 2 eg, .slice Cm nm0 em, .slice Ck nk0 ek] 26)
  have HF5 := Lib.hid (HFo.out _ hb5)
  have HK5 := Lib.hid (HK4.out.below hb45 HK4.out.lt)
  have HO5 := Lib.hid (HO4.out.later hb45)
  generalize hw5 : w4.alloc (.cells #[.int .i64 un0, .slice Cg 2 eg, .slice Cm nm0 em, .slice Ck nk0 ek] 26) = w5 at *
  have HS5 := Lib.hid hs5
  have HB5 := Lib.hid hb5
  have HW5 := Lib.hid hw5
  clear hs5 hb5 hb45 hw5
  go_wp2_with fail
  rw [HW5.out]
  refine HF5.out.mono ?_
  rintro e w6 ⟨rfl, hb6⟩
  have HB6 := Lib.hid (HB5.out.trans (hb6.mono HB5.out.size))
  have HK6 := Lib.hid (HK5.out.below hb6 HK5.out.lt)
  have HS6 := Lib.hid (HS5.out.below hb6 HS5.out.lt)
  have hb67 := (Below.refl w6.heap.size w6).alloc (Nat.le_refl _) (.cells #[.int .i64 0, .int .i64 2] 3)
  have HO7 := Lib.hid ((HO5.out.later hb6).later hb67)
  have HN7 := Lib.hid (new_sl w6 3 (ints [0, 2]) (by unfold maxLen; simp [ints]))
  have HE7 := Lib.hid (equal_ints _ _ [0, 2] [0, 2] _ _ _ HO7.out HN7.out)
  have HB7 := Lib.hid (HB6.out.alloc HB6.out.size (.cells #[.int .i64 0, .int .i64 2] 3))
  have HK7 := Lib.hid (HK6.out.below hb67 HK6.out.lt)
  have HS7 := Lib.hid (HS6.out.below hb67 HS6.out.lt)
  have s1 := HS6.out.cell 1
  have ls6 := HS6.out.lt
  simp only [List.getElem?_toArray, List.getElem?_cons_zero, List.getElem?_cons_succ] at s1
  clear hb6 hb67
  go_wp2_with fail
  refine HE7.out.mono ?_
  rintro e w8 ⟨rfl, nq, rfl⟩
  have HB8 : Hid (Below w.heap.size w ((w6.alloc (.cells #[.int .i64 0, .int .i64 2] 3)).drewN nq)) := below_drewN HB7.out nq
  have HK8 : Hid (Blk ((w6.alloc (.cells #[.int .i64 0, .int .i64 2] 3)).drewN nq) w.heap.size 26 _) := HK7.out
  have HS8 : Hid (Blk ((w6.alloc (.cells #[.int .i64 0, .int .i64 2] 3)).drewN nq) w4.heap.size 26 _) := HS7.out
  generalize (w6.alloc (.cells #[.int .i64 0, .int .i64 2] 3)).drewN nq = w8 at *
  have HC8 := Lib.hid (HS1.out w8 HB8.out)
  have k0 := HK8.out.cell 0
  have k1 := HK8.out.cell 1
  have k2 := HK8.out.cell 2
  have k3 := HK8.out.cell 3
  simp only [List.getElem?_toArray, List.getElem?_cons_zero, List.getElem?_cons_succ] at k0 k1 k2 k3
  have lk8 := HK8.out.lt
  have hlt4 : w.heap.size < w4.heap.size := Nat.lt_of_lt_of_le HK4.out.lt (Nat.le_refl _)
  clear s1 ls6
  go_wp2_with fail
  refine HC8.out.mono ?_
  rintro e w9 ⟨r, v9, o9, hr, rfl, hv9, ho9, hb9⟩
  obtain ⟨Dg, fg, Dm, fm, Dk, fk, rfl, _, _⟩ := fnt_form hv9
  obtain ⟨Ao, co, eo⟩ := ho9.form
  rw [ints_length, List.length_map] at eo
  subst eo
  have HR := Lib.hid hr
  have HV9 := Lib.hid hv9
  have HO9 := Lib.hid ho9
  have HB9 := Lib.hid (HB8.out.trans (hb9.mono HB8.out.size))
  have hs9 := HS8.out.below hb9 HS8.out.lt
  have hk9 := HK8.out.below hb9 HK8.out.lt
  have HS9 := Lib.hid hs9
  have HK9 := Lib.hid hk9
  have ls9 := hs9.lt
  have s0 := hs9.cell 0
  have s1 := hs9.cell 1
  have s2 := hs9.cell 2
  have s3 := hs9.cell 3
  have f0 := hs9.frozen 0
  have f1 := hs9.frozen 1
  have f2 := hs9.frozen 2
  have f3 := hs9.frozen 3
  simp only [List.getElem?_toArray, List.getElem?_cons_zero, List.getElem?_cons_succ] at s0 s1 s2 s3
  clear hr hv9 ho9 hb9 hs9 hk9 k0 k1 k2 k3
  obtain ⟨S, od, e0⟩ := r
  dsimp only at *
  have ls8 := HS8.out.lt
  have hfin := ((((FrS.refl w9.heap.size (fun k => k = w4.heap.size) w9).put (p := ⟨w4.heap.size, 0, none⟩) (.inr rfl) (.int .i64 S.unit)).put (p := ⟨w4.heap.size, 1, none⟩) (.inr rfl) (.slice Dg S.gs.length fg)).put (p := ⟨w4.heap.size, 2, none⟩) (.inr rfl) (.slice Dm S.map.length fm)).put (p := ⟨w4.heap.size, 3, none⟩) (.inr rfl) (.slice Dk S.kern.length fk)
  have hs10 := (((HS9.out.put 0 (.int .i64 S.unit)).put 1 (.slice Dg S.gs.length fg)).put 2 (.slice Dm S.map.length fm)).put 3 (.slice Dk S.kern.length fk)
  simp only [List.setIfInBounds_toArray, List.set_cons_zero, List.set_cons_succ] at hs10
  have HB10 := Lib.hid ((((HB9.out.setCell (p := ⟨w4.heap.size, 0, none⟩) (by show w.heap.size ≤ w4.heap.size; omega) (.int .i64 S.unit)).setCell (p := ⟨w4.heap.size, 1, none⟩) (by show w.heap.size ≤ w4.heap.size; omega) (.slice Dg S.gs.length fg)).setCell (p := ⟨w4.heap.size, 2, none⟩) (by show w.heap.size ≤ w4.heap.size; omega) (.slice Dm S.map.length fm)).setCell (p := ⟨w4.heap.size, 3, none⟩) (by show w.heap.size ≤ w4.heap.size; omega) (.slice Dk S.kern.length fk))
  have HK10 := Lib.hid (hfin.blk HK9.out HK9.out.lt (by omega))
  have HV10 := Lib.hid (HV9.out.keep hfin.size fun b hb hl => hfin.block b hl (by omega))
  have HO10 := Lib.hid (HO9.out.keep hfin.size fun b hb hl => hfin.block b hl (by omega))
  have HS10 := Lib.hid hs10
  clear hfin hs10
  by_cases hz : e0 = 0
  · subst hz
    go_upto_region 7 with (fail)
    generalize (((w9.setCell ⟨w4.heap.size, 0, none⟩ (.int .i64 S.unit)).setCell ⟨w4.heap.size, 1, none⟩ (.slice Dg S.gs.length fg)).setCell ⟨w4.heap.size, 2, none⟩ (.slice Dm S.map.length fm)).setCell ⟨w4.heap.size, 3, none⟩ (.slice Dk S.kern.length fk) = w10 at *
    clear s0 s1 s2 s3 f0 f1 f2 f3 ls9 ls8 lk8
    obtain ⟨hcF, hlen, cs, hcs, hcS, hS⟩ := sub_good HR.out rfl
    injection hS with hS1 hS2
    injection hS2 with hS2 _
    have HK := fok hcF
    have hFS := fok hcS
    rw [← hS1] at hcS hFS
    have hw := wid_sub HK (cs := cs) (by rw [← hS1]; exact hFS) hcs codes.length (Nat.le_refl _)
    rw [← hS1] at hw
    have HG := Lib.hid fun i (hi : i < codes.length) => gls_sub HK (cs := cs) (by rw [← hS1]; exact hFS) hcs hi
    have HPa := Lib.hid fun i (hi : i < codes.length) => pla_sub HK (cs := cs) (by rw [← hS1]; exact hFS) hcs hi
    have HOo := Lib.hid fun g x y h => outl_sub HK (cs := cs) 5 g x y h
    have HGs := Lib.hid (gs_sub F cs)
    have HK0 := Lib.hid (keep_zero HK cs)
    have HNo := Lib.hid fun g h => num_old (K := keepOf F cs) (g := g) h
    have HOn := Lib.hid fun j g h => old_num (K := keepOf F cs) (j := j) (g := g) h
    have HKl := Lib.hid ((keep_spec HK cs).1)
    rw [← hS1] at HG HPa HOo HGs
    rw [← hS2] at HGs HNo HOn
    generalize keepOf F cs = K at *
    have HcF := Lib.hid hcF
    have HcS := Lib.hid hcS
    have HCa := Lib.hid (HPl.out F _ _ w10 HB10.out (HFv.out w10 HB10.out) hcF hlen)
    have HPl2 := Lib.hid fun W (hb : Below w.heap.size w W) (h : FntV W (fun k => w8.heap.size ≤ k) (.agg #[.int .i64 S.unit, .slice Dg S.gs.length fg, .slice Dm S.map.length fm, .slice Dk S.kern.length fk]) S) => HPl.out S _ _ W hb h hcS hlen
    rw [hw] at HPl2
    have k0 := HK10.out.cell 0
    have k1 := HK10.out.cell 1
    have k2 := HK10.out.cell 2
    have k3 := HK10.out.cell 3
    simp only [List.getElem?_toArray, List.getElem?_cons_zero, List.getElem?_cons_succ] at k0 k1 k2 k3
    have lk10 := HK10.out.lt
    clear hcF hcS hcs hS1 hS2 HK hFS hw
    generalize wid F (gls F codes) codes.length = wd at *
    generalize codes.length = n at *
    go_wp2_with fail
    refine HCa.out.mono ?_
    rintro e w11 ⟨va, rfl, hoa, hb11⟩
    obtain ⟨Aa, ca, ea⟩ := own_form hoa
    subst ea
    have HB11 := Lib.hid (HB10.out.trans (hb11.mono HB10.out.size))
    have HV11 := Lib.hid (HV10.out.later hb11)
    have HO11 := Lib.hid (HO10.out.later hb11)
    have HK11 := Lib.hid (HK10.out.below hb11 HK10.out.lt)
    have HS11 := Lib.hid (HS10.out.below hb11 HS10.out.lt)
    have HOa := Lib.hid hoa
    have HCb := Lib.hid (HPl2.out w11 HB11.out HV11.out)
    have s0 := HS11.out.cell 0
    have s1 := HS11.out.cell 1
    have s2 := HS11.out.cell 2
    have s3 := HS11.out.cell 3
    simp only [List.getElem?_toArray, List.getElem?_cons_zero, List.getElem?_cons_succ] at s0 s1 s2 s3
    have ls11 := HS11.out.lt
    clear hoa hb11 k0 k1 k2 k3
    go_wp2_with fail
    refine HCb.out.mono ?_
    rintro e w12 ⟨vb, rfl, hob, hb12⟩
    obtain ⟨Ab, cb, eb⟩ := own_form hob
    subst eb
    have HB12 := Lib.hid (HB11.out.trans (hb12.mono HB11.out.size))
    have HV12 := Lib.hid (HV11.out.later hb12)
    have HO12 := Lib.hid (HO11.out.later hb12)
    have HK12 := Lib.hid (HK11.out.below hb12 HK11.out.lt)
    have HS12 := Lib.hid (HS11.out.below hb12 HS11.out.lt)
    have HOa12 := Lib.hid (own_below HOa.out hb12)
    have HOb12 := Lib.hid hob
    clear hob hb12 s0 s1 s2 s3
    go_wp2_with fail
    go_loopw [16, 91] (fun _ vi wq => ∃ i : Nat, i ≤ n ∧ vi = .int .i64 i ∧ ∃ k, wq = w12.drewN k) (fun _ i _ => n - (intOf i).toNat)
    case atStart => exact ⟨0, by omega, rfl, 0, rfl⟩
    case round =>
      obtain ⟨i, hi, rfl, k, rfl⟩ := hrel
      by_cases hlt : i < n
      · obtain ⟨ga, ea, la, hca⟩ := own_pls HOa12.out (by omega)
        obtain ⟨gb, eb, lb, hcb⟩ := own_pls HOb12.out (by omega)
        subst ea eb
        obtain ⟨a0, a1⟩ := hca i hlt
        obtain ⟨b0, b1⟩ := hcb i hlt
        obtain ⟨g, hk, e1, e2⟩ := HG.out i hlt
        rw [e1] at a0
        rw [e2] at b0
        rw [HPa.out i hlt] at b1
        obtain ⟨hn1, hn2⟩ := HNo.out g hk
        obtain ⟨bo, oo, eo, lo, hoc⟩ := Sl.plainA HO12.out (by rw [ints_length, List.length_map]; omega)
        subst eo
        have o0 := hoc (num K g) (.int .i64 g) (by unfold ints; rw [List.getElem?_map, List.getElem?_map, hn1]; rfl)
        generalize num K g = u at *
        generalize pla F (gls F codes) i = x at *
        have hd : decide ((od.length : Int) ≤ (u : Int)) = false := by simp; omega
        clear hca hcb hk e1 e2 hn1 hoc
        go_wp2_with fail
        go_quiet (fail)
        go_wp2_with fail
        go_roundw
        case rel => exact ⟨i + 1, by omega, by go_num, _, rfl⟩
        case measure => simp [intOf]; omega
      · obtain rfl : n = i := by omega
        have HB13 : Hid (Below w.heap.size w (w12.drewN k)) := below_drewN HB12.out k
        have HV13 : Hid (FntV (w12.drewN k) (fun k => w8.heap.size ≤ k) (.agg #[.int .i64 S.unit, .slice Dg S.gs.length fg, .slice Dm S.map.length fm, .slice Dk S.kern.length fk]) S) := HV12.out
        have HO13 : Hid (Sl (w12.drewN k) (fun k => w8.heap.size ≤ k) (.slice Ao od.length co) (ints (od.map Int.ofNat))) := HO12.out
        have HK13 : Hid (Blk (w12.drewN k) w.heap.size 26 _) := HK12.out
        have HS13 : Hid (Blk (w12.drewN k) w4.heap.size 26 _) := HS12.out
        generalize w12.drewN k = w13 at *
        have hpos : 0 < od.length := Nat.lt_of_le_of_lt (Nat.zero_le _) (HNo.out 0 HK0.out).2
        have hS8 := (fok HcS.out).n1
        rw [HGs.out] at hS8
        obtain ⟨no, hno⟩ : ∃ no, od.length = no + 1 := ⟨od.length - 1, by omega⟩
        have hol : (ints (od.map Int.ofNat)).length = od.length := by rw [ints_length, List.length_map]
        have HWi := Lib.hid (within_range which 0 (no : Int) w13 (Int.le_refl _) (by omega) (by omega))
        have HOl := Lib.hid hol
        have HNd : Hid (∀ q, q < no + 1 → od[q]? = some (od.getD q 0) ∧ (ints (od.map Int.ofNat))[q]? = some (.int .i64 ((od.getD q 0 : Nat) : Int))) := fun q hq => ⟨by rw [List.getD_eq_getElem?_getD, List.getElem?_eq_getElem (by omega)]; rfl, onat (by omega)⟩
        clear hol
        generalize od.length = nd at *
        subst hno
        go_wp2_with fail
        refine HWi.out.mono ?_
        rintro e w14 ⟨r, hr0, hr1, rfl, rfl⟩
        obtain ⟨q, rfl⟩ : ∃ q : Nat, r = (q : Int) := ⟨_, (Int.toNat_of_nonneg hr0).symm⟩
        have hq : q < no + 1 := by omega
        obtain ⟨hnd1, hnd2⟩ := HNd.out q hq
        obtain ⟨hg1, hg2⟩ := HOn.out q (od.getD q 0) hnd1
        have hg3 := ktp_lt hg1
        rw [HKl.out] at hg3
        obtain ⟨bo, oo, eo, lo, hoc⟩ := Sl.plainA HO13.out (by rw [HOl.out]; omega)
        subst eo
        have o0 := hoc q _ hnd2
        have hou := HOo.out (od.getD q 0) 0 0 hg1
        rw [hg2] at hou
        generalize od.getD q 0 = g at *
        have k0 := HK13.out.cell 0
        have k1 := HK13.out.cell 1
        have k2 := HK13.out.cell 2
        have k3 := HK13.out.cell 3
        simp only [List.getElem?_toArray, List.getElem?_cons_zero, List.getElem?_cons_succ] at k0 k1 k2 k3
        have lk13 := HK13.out.lt
        have hq0 : (0 : Int) ≤ (q : Int) := hr0
        have hq1 : (q : Int) < (no : Int) + 1 := by omega
        have HC14 := Lib.hid (HOu.out F _ _ w13.drew g HB13.out.drew ((HFv.out _ HB13.out).later (Below.drew (Below.refl _ w13))) HcF.out hg3)
        have hS0 : (fun w' : World => w'.cell? ⟨w.heap.size, 0, none⟩ = some (.int .i64 F.unit) ∧ w'.cell? ⟨w.heap.size, 1, none⟩ = some (.slice Ag F.gs.length cg) ∧ w'.cell? ⟨w.heap.size, 2, none⟩ = some (.slice Am F.map.length cm) ∧ w'.cell? ⟨w.heap.size, 3, none⟩ = some (.slice Ak F.kern.length ck) ∧ w'.cell? ⟨bo, oo + q, none⟩ = some (.int .i64 g)) w13.drew := ⟨k0, k1, k2, k3, o0⟩
        have HSk : Hid (∀ w', Below w13.heap.size w13.drew w' → (fun w' : World => w'.cell? ⟨w.heap.size, 0, none⟩ = some (.int .i64 F.unit) ∧ w'.cell? ⟨w.heap.size, 1, none⟩ = some (.slice Ag F.gs.length cg) ∧ w'.cell? ⟨w.heap.size, 2, none⟩ = some (.slice Am F.map.length cm) ∧ w'.cell? ⟨w.heap.size, 3, none⟩ = some (.slice Ak F.kern.length ck) ∧ w'.cell? ⟨bo, oo + q, none⟩ = some (.int .i64 g)) w') := fun w' h => ⟨(h.cell (p := ⟨w.heap.size, 0, none⟩) lk13).trans k0, (h.cell (p := ⟨w.heap.size, 1, none⟩) lk13).trans k1, (h.cell (p := ⟨w.heap.size, 2, none⟩) lk13).trans k2, (h.cell (p := ⟨w.heap.size, 3, none⟩) lk13).trans k3, (h.cell (p := ⟨bo, oo + q, none⟩) lo).trans o0⟩
        clear hoc hg1 hg2 hg3 hnd1 hnd2
        go_wp2_with fail
        go_region_held3 (fun w' => w'.cell? ⟨w.heap.size, 0, none⟩ = some (.int .i64 F.unit) ∧ w'.cell? ⟨w.heap.size, 1, none⟩ = some (.slice Ag F.gs.length cg) ∧ w'.cell? ⟨w.heap.size, 2, none⟩ = some (.slice Am F.map.length cm) ∧ w'.cell? ⟨w.heap.size, 3, none⟩ = some (.slice Ak F.kern.length ck) ∧ w'.cell? ⟨bo, oo + q, none⟩ = some (.int .i64 g)) (first | exact hS0 | exact HSk.out _ (by assumption)) (first | (go_at_call 21; refine HC14.out.mono ?_; rintro e w15 ⟨vo1, rfl, hco1, hb15⟩))
        have hb15' : Below w13.heap.size w13 w15 := ⟨hb15.os, hb15.tape, hb15.output, hb15.size, hb15.block⟩
        have HB15 := Lib.hid (HB13.out.trans (hb15'.mono HB13.out.size))
        obtain ⟨A5, c5, e5, _, _⟩ := hco1.form
        subst e5
        have HCo1 := Lib.hid hco1
        have HV15 := Lib.hid (HV13.out.later hb15')
        have hs15 := HS13.out.below hb15' HS13.out.lt
        have s0 := hs15.cell 0
        have s1 := hs15.cell 1
        have s2 := hs15.cell 2
        have s3 := hs15.cell 3
        simp only [List.getElem?_toArray, List.getElem?_cons_zero, List.getElem?_cons_succ] at s0 s1 s2 s3
        have ls15 := hs15.lt
        have HC16 := Lib.hid (HOu.out S _ _ w15 q HB15.out HV15.out HcS.out (by rw [HGs.out]; exact hq))
        rw [hou] at HC16
        clear hs15 hb15 hb15' hco1 k0 k1 k2 k3 hS0 hou
        generalize outl F 5 g 0 0 = ol at *
        go_wp2_with fail
        refine HC16.out.mono ?_
        rintro e w16 ⟨vo2, rfl, hco2, hb16⟩
        have HB16 := Lib.hid (HB15.out.trans (hb16.mono HB15.out.size))
        obtain ⟨A6, c6, e6, _, _⟩ := hco2.form
        subst e6
        have HEq := Lib.hid (equal_con _ _ ol _ _ w16 (HCo1.out.keep hb16.size fun b _ hl => hb16.block b hl) hco2)
        clear hb16 hco2
        go_wp2_with fail
        refine HEq.out.mono ?_
        rintro e w17 ⟨rfl, hb17⟩
        go_wp2_with fail
        go_ret
        exact ⟨rfl, HB16.out.trans (hb17.mono HB16.out.size)⟩
  · have hod : od = [] := sub_err HR.out hz
    subst hod
    go_wp2_with fail
    go_ret
    exact ⟨rfl, HB10.out⟩
end Go.Proofs.YtefkglmdkjkbiaaDoor
