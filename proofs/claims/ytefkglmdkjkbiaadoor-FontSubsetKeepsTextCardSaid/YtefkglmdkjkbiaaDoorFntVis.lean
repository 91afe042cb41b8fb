/- The walk of visit. -/
import Derived.Test.YtefkglmdkjkbiaaDoorFntNst
import Derived.Test.YtefkglmdkjkbiaaDoorFntGl2
import Derived.StillTailTactics
import Derived.IntWalk
import Derived.Deep.QuietTactic
import Derived.BigQuiet
namespace Go.Proofs.YtefkglmdkjkbiaaDoor
open Go.RowKit Fnt
def VisPost (F : Font) (k g : Nat) (L : List Nst) (b : Nat) (w : World) (e : Ending) (w' : World) : Prop :=
  e = .returned (.int .i64 (vis F k g L).1) ∧ NstM w' b (vis F k g L).2 ∧ FrX w.heap.size b w w'
set_option maxRecDepth 100000 in
set_option maxHeartbeats 4000000 in
theorem visit_any (F : Font) (fv : Value) (ok : Nat → Prop) (b : Nat) (hN : F.gs.length ≤ 128) (hF : ∀ i, i < F.gs.length → GlOk (gl F i) F.gs.length) (hob : ¬ ok b) :
    ∀ (k g : Nat) (L : List Nst) (w : World), FntV w ok fv F → NstM w b L → L.length = F.gs.length → g < F.gs.length → fresh L < k → Bd L →
      Calls Tryd.prog 44 #[fv, .int .i64 g, .slice (some ⟨b, 0, none⟩) F.gs.length F.gs.length] w (VisPost F k g L b w) := by
  intro k
  induction k with
  | zero => intro g L w _ _ _ _ h _; omega
  | succ k ih =>
    intro g L w hf hm hL hg hfr hbd
    have HFv : Hid (∀ w', FrX w.heap.size b w w' → FntV w' ok fv F) := fun w' h => h.fnt hf (Nat.le_refl _) hob
    have HBO := Lib.hid (own_all hF)
    have HPF : Hid (∀ (n0 n : Nst) (L1 Lk : List Nst) (ps : List Part), parts (vis F k) ps n0 L1 = (0, n, Lk) → Bd L1 → Nb n0 (done L1) → Keeps L1 Lk ∧ Bd Lk ∧ Nb n (done Lk)) := fun n0 n L1 Lk ps h hb hn => parts_facts hF h hb hn
    obtain ⟨vg, vm, vk, rfl, hgs, hmp, hkn⟩ := hf
    obtain ⟨bg, og, capg, vs, rfl, hokg, hbg, hg1, hg2, hgc⟩ := Gls.cells hgs (by omega)
    obtain ⟨Am, cm, rfl⟩ := SlM.form hmp
    obtain ⟨Ak, ck, rfl⟩ := SlM.form hkn
    obtain ⟨s0, s1, s2⟩ := hm.cells (g := g) (by omega)
    have f0 := hm.free (g := g) (j := 0) (by omega) (by omega)
    have HM := Lib.hid hm
    have HV : Hid (∀ o, NstM (w.alloc o) b L) := fun o => hm.keep (by simp) (Below.heap_alloc w o b hm.lt)
    have HB0 : Hid (∀ o, FrX w.heap.size b w (w.alloc o)) := fun o => FrX.of_below ((Below.refl _ _).alloc (Nat.le_refl _) o) (Nat.le_refl _)
    have hlb := hm.lt
    have HE : Hid (vis F (k + 1) g L = if (nst L g).st = 1 then (13, L) else if (nst L g).st = 2 then (0, L) else
      let r := parts (vis F k) (gl F g).ps ⟨2, 1, own (gl F g)⟩ (L.set g ⟨1, (nst L g).dp, (nst L g).pt⟩)
      if r.1 = 0 then (0, r.2.2.set g r.2.1) else (r.1, r.2.2)) := rfl
    have hgN : (g : Int) < (F.gs.length : Int) := by omega
    have hg0 : 0 ≤ (g : Int) := by omega
    by_cases h1 : (nst L g).st = 1
    · rw [if_pos h1] at HE
      rw [h1] at s0
      have HP : Hid (∀ o, VisPost F (k + 1) g L b w (.returned (.int .i64 13)) (w.alloc o)) := fun o => ⟨by rw [HE.out], by rw [HE.out]; exact HV.out o, HB0.out o⟩
      replace s0 := fun o => (cell_lt w o ⟨b, g * 3, none⟩ hlb).trans s0
      generalize VisPost F (k + 1) g L b w = Q at *
      generalize F.gs.length = N at *
      clear ih hgs hmp hkn hm hfr hgc
      go_enter Tryd.func44, Tryd.ntmps44
      go_wp2
      exact HP.out _
    · rw [if_neg h1] at HE
      by_cases h2 : (nst L g).st = 2
      · rw [if_pos h2] at HE
        rw [h2] at s0
        have HP : Hid (∀ o, VisPost F (k + 1) g L b w (.returned (.int .i64 0)) (w.alloc o)) := fun o => ⟨by rw [HE.out], by rw [HE.out]; exact HV.out o, HB0.out o⟩
        replace s0 := fun o => (cell_lt w o ⟨b, g * 3, none⟩ hlb).trans s0
        generalize VisPost F (k + 1) g L b w = Q at *
        generalize F.gs.length = N at *
        clear ih hgs hmp hkn hm hfr hgc
        go_enter Tryd.func44, Tryd.ntmps44
        go_wp2
        exact HP.out _
      · rw [if_neg h2] at HE
        have h0 := st_zero _ h1 h2
        rw [h0] at s0
        obtain ⟨_, c1, c2, hcs, hps⟩ := hgc g hg
        have hgd : F.gs.getD g default = gl F g := rfl
        rw [hgd] at hcs hps
        have hGl := hF g hg
        have hlg : g < L.length := by omega
        have HO := Lib.hid (own_le hGl)
        generalize gl F g = G at *
        generalize hvc : (vs g).1 = vc at *
        generalize hvp : (vs g).2 = vp at *
        obtain ⟨Ac, cc, rfl, hn1, hn2⟩ := hcs.form
        obtain ⟨Ap, cp, rfl, hq1, hq2⟩ := hps.form
        have HCs := Lib.hid hcs
        have HPs := Lib.hid hps
        have HG := Lib.hid hGl
        have hc8 := hGl.cs
        have hp4 := hGl.ps
        generalize hnc : G.cs.length = nc at *
        generalize hnp : G.ps.length = np at *
        generalize hNN : F.gs.length = N at *
        have HNc := Lib.hid hnc
        have HNp := Lib.hid hnp
        generalize hLe : L.set g ⟨1, (nst L g).dp, (nst L g).pt⟩ = L1 at HE
        have HLe := Lib.hid hLe
        clear hLe
        have hob2 : bg ≠ b := fun e => hob (e ▸ hokg)
        generalize hnm : F.map.length = nm at *
        generalize hnk : F.kern.length = nk at *
        generalize F.unit = un at *
        have hb1 := HB0.out (.cells #[.int .i64 un, .slice (some ⟨bg, og, none⟩) N capg, .slice Am nm cm, .slice Ak nk ck] 26)
        have hk1 := Blk.new w 26 #[.int .i64 un, .slice (some ⟨bg, og, none⟩) N capg, .slice Am nm cm, .slice Ak nk ck]
        have hm1 := HV.out (.cells #[.int .i64 un, .slice (some ⟨bg, og, none⟩) N capg, .slice Am nm cm, .slice Ak nk ck] 26)
        generalize hw1 : w.alloc (.cells #[.int .i64 un, .slice (some ⟨bg, og, none⟩) N capg, .slice Am nm cm, .slice Ak nk ck] 26) = w1 at *
        obtain ⟨s0, _, _⟩ := hm1.cells hlg
        rw [h0] at s0
        have f0 := hm1.free (j := 0) hlg (by omega)
        rw [Nat.add_zero] at f0
        have hm2 := hm1.begin_ hlg
        have hb2 := hb1.put (g * 3) (.int .i64 1)
        have hk2 := hk1.far (p := ⟨b, g * 3, none⟩) (by show w.heap.size ≠ b; omega) (.int .i64 1)
        generalize hw2 : w1.setCell ⟨b, g * 3, none⟩ (.int .i64 1) = w2 at *
        rw [HLe.out] at hm2
        replace c1 := (hb2.cell hbg hob2 _).trans c1
        replace c2 := (hb2.cell hbg hob2 _).trans c2
        have c3 := hk2.cell 1
        have lg2 : w.heap.size < w2.heap.size := hk2.lt
        have lb2 : b < w2.heap.size := hm2.lt
        have lbg2 : bg < w2.heap.size := Nat.lt_of_lt_of_le hbg hb2.size
        have HM2 := Lib.hid hm2
        have HB2 := Lib.hid hb2
        have HK2 := Lib.hid hk2
        have HB1 := Lib.hid hb1
        clear hm2 hb2 hk2 hb1 hk1 hm1 hgs HM HV HB0 hm hmp hkn hcs hps hGl hgc hnc hnp hvc hvp
        simp only [List.getElem?_toArray, List.getElem?_cons_zero, List.getElem?_cons_succ] at c3
        have HLl : Hid (L1.length = N) := by rw [← HLe.out, List.length_set]; exact hL
        have HFr : Hid (fresh L1 < k) := by have := fresh_begin hlg h0 (nst L g).dp (nst L g).pt; rw [HLe.out] at this; unfold Hid; omega
        have HBd : Hid (Bd L1) := by rw [← HLe.out]; exact bd_begin hbd h0
        go_enter Tryd.func44, Tryd.ntmps44
        go_wp2
        go_loopw [9, 34] (fun _ vi wq => ∃ i : Nat, i ≤ nc ∧ vi = .int .i64 i ∧ wq = w2.alloc (.cells #[.int .i64 2, .int .i64 1, .int .i64 (ownTo G i)] 99)) (fun _ i _ => nc - (intOf i).toNat)
        case atStart => exact ⟨0, by omega, rfl, by simp [ownTo]⟩
        case round =>
          obtain ⟨i, hi, rfl, rfl⟩ := hrel
          by_cases hlt : i < nc
          · obtain ⟨bc, oc, capc, cvs, ev, hokc, hbc, _, _, hcc⟩ := Cons.cells HCs.out (by rw [HNc.out]; omega)
            injection ev with e1 e2 e3
            subst e1 e3
            clear e2
            obtain ⟨d0, hpt⟩ := hcc i (by rw [HNc.out]; exact hlt)
            obtain ⟨Ai, ci, hei⟩ := SlM.form hpt
            rw [hei] at d0
            have hcl : (G.cs.getD i []).length ≤ 32 := by
              have hmem : G.cs.getD i [] ∈ G.cs := by
                rw [List.getD_eq_getElem?_getD, List.getElem?_eq_getElem (by rw [HNc.out]; exact hlt)]; exact List.getElem_mem _
              exact (contour_ok (HG.out.con _ hmem)).2.1
            have HS := Lib.hid (ownTo_succ G i (by rw [HNc.out]; exact hlt))
            have hso := Nat.le_trans (ownTo_le G i) HO.out
            replace d0 := (HB2.out.cell hbc (fun e => hob (e ▸ hokc)) _).trans d0
            have lbc : bc < w2.heap.size := Nat.lt_of_lt_of_le hbc HB2.out.size
            generalize (G.cs.getD i []).length = nl at *
            generalize ownTo G i = so at *
            clear hcc hpt hei
            go_wp2
            go_roundw
            case rel => exact ⟨i + 1, by omega, by go_num, by rw [HS.out]; push_cast; rfl⟩
            case measure => simp [intOf]; omega
          · obtain rfl : i = nc := by omega
            go_wp2
            go_loopw [11, 12, 52] (fun _ _ vi wq => ∃ (i : Nat) (n : Nst) (Lk : List Nst), i ≤ np ∧ vi = .int .i64 i ∧ parts (vis F k) (G.ps.take i) ⟨2, 1, own G⟩ L1 = (0, n, Lk) ∧ Blk wq w.heap.size 26 #[.int .i64 un, .slice (some ⟨bg, og, none⟩) N capg, .slice Am nm cm, .slice Ak nk ck] ∧
              Blk wq w2.heap.size 99 #[.int .i64 2, .int .i64 n.dp, .int .i64 n.pt] ∧ NstM wq b Lk ∧ FrX w.heap.size b w wq) (fun _ _ i _ => np - (intOf i).toNat)
            case atStart => exact ⟨0, _, L1, by omega, rfl, rfl, HK2.out.alloc _, by rw [← ownTo_all G, HNc.out]; exact Blk.new w2 _ _, HM2.out.alloc _, HB2.out.alloc (Nat.le_refl _) _⟩
            case round =>
              obtain ⟨j, n, Lk, hj, rfl, hpa, hkf, hkn, hmk, hfk⟩ := hrel
              have HPa := Lib.hid hpa
              have HKf := Lib.hid hkf
              have HKn := Lib.hid hkn
              have HMk := Lib.hid hmk
              have HFk := Lib.hid hfk
              have k0 := hkf.cell 0
              have k1 := hkf.cell 1
              have k2 := hkf.cell 2
              have k3 := hkf.cell 3
              have n0 := hkn.cell 0
              have n1 := hkn.cell 1
              have n2 := hkn.cell 2
              simp only [List.getElem?_toArray, List.getElem?_cons_zero, List.getElem?_cons_succ] at k0 k1 k2 k3 n0 n1 n2
              have lw : w2.heap.size < wr.heap.size := hkn.lt
              have lw0 : w.heap.size < wr.heap.size := hkf.lt
              clear hpa hkf hkn hmk hfk
              by_cases hlt2 : j < np
              · obtain ⟨bp, op, capp, ev, hokp, hbp, _, _, hcp⟩ := Pas.cells HPs.out (by rw [HNp.out]; omega)
                injection ev with e1 e2 e3
                subst e1 e3
                clear e2
                obtain ⟨d0, d1, d2⟩ := hcp j (by rw [HNp.out]; exact hlt2)
                have hob3 : bp ≠ b := fun e => hob (e ▸ hokp)
                replace d0 := (HFk.out.cell hbp hob3 _).trans d0
                replace d1 := (HFk.out.cell hbp hob3 _).trans d1
                replace d2 := (HFk.out.cell hbp hob3 _).trans d2
                have lbp : bp < wr.heap.size := Nat.lt_of_lt_of_le hbp HFk.out.size
                have hmem : G.ps.getD j default ∈ G.ps := by
                  rw [List.getD_eq_getElem?_getD, List.getElem?_eq_getElem (by rw [HNp.out]; exact hlt2)]; exact List.getElem_mem _
                obtain ⟨y0, y1, _, _⟩ := HG.out.par _ hmem
                obtain ⟨q, hq⟩ : ∃ q : Nat, (G.ps.getD j default).g = (q : Int) := ⟨_, (Int.toNat_of_nonneg y0).symm⟩
                rw [hq] at d0 y1
                have hqN : q < N := by omega
                have HNx : Hid ((vis F k q Lk).1 = 0 → parts (vis F k) (G.ps.take (j + 1)) ⟨2, 1, own G⟩ L1 = (0, ⟨2, max n.dp ((nst (vis F k q Lk).2 q).dp + 1), min (n.pt + (nst (vis F k q Lk).2 q).pt) 1048576⟩, (vis F k q Lk).2)) := fun h0 => parts_next HPa.out (by rw [HNp.out]; exact hlt2) hq h0
                have HSt : Hid ((vis F k q Lk).1 ≠ 0 → parts (vis F k) G.ps ⟨2, 1, own G⟩ L1 = ((vis F k q Lk).1, n, (vis F k q Lk).2)) := fun h0 => parts_stop HPa.out (by rw [HNp.out]; exact hlt2) hq h0
                obtain ⟨hK1, hBk, hNb⟩ := HPF.out _ _ _ _ _ HPa.out HBd.out (by have := HO.out; exact ⟨rfl, by dsimp only; omega, by dsimp only; omega, by dsimp only; omega, by dsimp only; omega⟩)
                have hlk : Lk.length = N := hK1.1.trans HLl.out
                have hfq : fresh Lk < k := Nat.lt_of_le_of_lt hK1.fresh HFr.out
                obtain ⟨_, y2, y3, y4, y5⟩ := hNb
                have hdl := done_le Lk
                have hB5 := vis_bd HBO.out k q Lk hBk q
                have hK5 := vis_keeps F k q Lk
                have hd5 := done_le (vis F k q Lk).2
                rw [hK5.1, hlk] at hd5
                rw [hlk] at hdl
                obtain ⟨z0, z1, z2, z3⟩ := hB5
                have HK5 : Hid ((vis F k q Lk).2.length = N) := hK5.1.trans hlk
                have HIH := Lib.hid (ih q Lk (wr.alloc (.cells #[.int .i64 q, .int .i64 (G.ps.getD j default).x, .int .i64 (G.ps.getD j default).y] 103)) (HFv.out _ (HFk.out.alloc (Nat.le_refl _) _)) (HMk.out.alloc _) hlk hqN hfq hBk)
                unfold VisPost at HIH
                clear hK1 hBk hK5 hcp hmem y0 y1 ih
                generalize (vis F k q Lk).1 = e0 at *
                generalize (vis F k q Lk).2 = L5 at *
                generalize (G.ps.getD j default).x = px at *
                generalize (G.ps.getD j default).y = py at *
                have HPb := Lib.hid (Blk.new wr 103 #[.int .i64 q, .int .i64 px, .int .i64 py])
                have hwz : wr.heap.size < (wr.alloc (.cells #[.int .i64 q, .int .i64 px, .int .i64 py] 103)).heap.size := HPb.out.lt
                have hwz := Lib.hid hwz
                by_cases he0 : e0 = 0
                · subst he0
                  go_wp2_with (go_at_call 44; refine HIH.out.mono ?_; rintro e w5 ⟨rfl, hm5, hf5⟩)
                  have hlq : q < L5.length := by rw [HK5.out]; exact hqN
                  have hne : wr.heap.size ≠ b := by have := HMk.out.lt; omega
                  have hn5 := (HKn.out.alloc (.cells #[.int .i64 q, .int .i64 px, .int .i64 py] 103)).frx hf5 (Nat.lt_trans lw hwz.out) (by omega)
                  have hk5 := (HKf.out.alloc (.cells #[.int .i64 q, .int .i64 px, .int .i64 py] 103)).frx hf5 (Nat.lt_trans lw0 hwz.out) (by omega)
                  have hp5 := HPb.out.frx hf5 hwz.out hne
                  obtain ⟨_, r1, r2⟩ := hm5.cells hlq
                  have HN5 := Lib.hid hn5
                  have HKf5 := Lib.hid hk5
                  have HPb5 := Lib.hid hp5
                  have HM5 := Lib.hid hm5
                  have HF5 := Lib.hid ((HFk.out.alloc (Nat.le_refl _) (.cells #[.int .i64 q, .int .i64 px, .int .i64 py] 103)).trans (hf5.mono (Nat.le_of_lt (Nat.lt_trans lw0 hwz.out))))
                  have m1 := hn5.cell 1
                  have m2 := hn5.cell 2
                  have p0 := hp5.cell 0
                  have g1 := hn5.frozen 1
                  have g2 := hn5.frozen 2
                  simp only [List.getElem?_toArray, List.getElem?_cons_zero, List.getElem?_cons_succ] at m1 m2 p0
                  clear n0 n1 n2 k0 k1 k2 k3 d0 d1 d2 hn5 hk5 hp5 hm5 hf5 lw lw0 lbp
                  generalize hdq : (nst L5 q).dp = dq at *
                  generalize hpq : (nst L5 q).pt = pq at *
                  generalize hdn : n.dp = dn at *
                  generalize hpn : n.pt = pn at *
                  have HDq := Lib.hid hdq
                  have HPq := Lib.hid hpq
                  have HDn := Lib.hid hdn
                  have HPn := Lib.hid hpn
                  clear hdq hpq hdn hpn
                  have ew : IntKind.i64.wrap (dq + 1) = dq + 1 := IntWalk.i64_in _ (by omega)
                  have ew2 : IntKind.i64.wrap (pn + pq) = pn + pq := IntWalk.i64_in _ (by omega)
                  have eq0 : 0 ≤ (q : Int) := by omega
                  have eq1 : (q : Int) < (N : Int) := by omega
                  go_still_tail 11, (by kernel_rfl)
                  change wpList _ _ _ _ _ w5.drew
                  rw [max_if dn (dq + 1)]
                  generalize max dn (dq + 1) = mx at *
                  go_wp2
                  have hn6 := (HN5.out.put 1 (.int .i64 mx)).drew
                  have hne1 : wr.heap.size ≠ w2.heap.size := by have := HKn.out.lt; omega
                  have hne2 : b ≠ w2.heap.size := by omega
                  have hp6 := (HPb5.out.far (p := ⟨w2.heap.size, 1, none⟩) hne1 (.int .i64 mx)).drew
                  have hm6 := (HM5.out.far (p := ⟨w2.heap.size, 1, none⟩) hne2 (.int .i64 mx)).drew
                  have hk6 := (HKf5.out.far (p := ⟨w2.heap.size, 1, none⟩) (by show w.heap.size ≠ w2.heap.size; omega) (.int .i64 mx)).drew
                  have hf6 := (HF5.out.above (p := ⟨w2.heap.size, 1, none⟩) (by show w.heap.size ≤ w2.heap.size; omega) (.int .i64 mx)).drew
                  clear r1 r2 m1 m2 p0 g1 g2
                  generalize (w5.setCell ⟨w2.heap.size, 1, none⟩ (.int .i64 mx)).drew = w6 at *
                  obtain ⟨_, r1, r2⟩ := hm6.cells hlq
                  rw [HPq.out] at r2
                  have m2 := hn6.cell 2
                  have p0 := hp6.cell 0
                  have g2 := hn6.frozen 2
                  simp at m2 p0
                  have HN6 := Lib.hid hn6
                  have HKf6 := Lib.hid hk6
                  have HM6 := Lib.hid hm6
                  have HF6 := Lib.hid hf6
                  have hpp := hp6.lt
                  have hnn := hn6.lt
                  have HPp : Hid (Blk w6 wr.heap.size _ _) := hp6
                  clear hn6 hk6 hm6 hf6 hp6
                  go_still_tail 11, (by kernel_rfl)
                  change wpList _ _ _ _ _ w6.drew
                  rw [min_if (pn + pq) 1048576]
                  generalize min (pn + pq) 1048576 = mp at *
                  have HE6 := Lib.hid ((HN6.out.put 2 (.int .i64 mp)).drew)
                  have HM7 := Lib.hid ((HM6.out.far (p := ⟨w2.heap.size, 2, none⟩) hne2 (.int .i64 mp)).drew)
                  have HK7 := Lib.hid ((HKf6.out.far (p := ⟨w2.heap.size, 2, none⟩) (by show w.heap.size ≠ w2.heap.size; omega) (.int .i64 mp)).drew)
                  have HF7 := Lib.hid ((HF6.out.above (p := ⟨w2.heap.size, 2, none⟩) (by show w.heap.size ≤ w2.heap.size; omega) (.int .i64 mp)).drew)
                  go_wp2
                  go_roundw
                  case rel => exact ⟨j + 1, _, L5, by omega, by go_num, HNx.out trivial, HK7.out, HE6.out, HM7.out, HF7.out⟩
                  case measure => simp [intOf]; omega
                · have HEe : Hid (∀ w', NstM w' b L5 → FrX w.heap.size b w w' → VisPost F (k + 1) g L b w (.returned (.int .i64 e0)) w') := fun w' h1 h2 => by
                    have e : vis F (k + 1) g L = (e0, L5) := by
                      rw [HE.out, HSt.out he0]; exact if_neg he0
                    exact ⟨by rw [e], by rw [e]; exact h1, h2⟩
                  generalize VisPost F (k + 1) g L b w = Q at *
                  have HF5 := Lib.hid (HFk.out.alloc (Nat.le_refl _) (.cells #[.int .i64 q, .int .i64 px, .int .i64 py] 103))
                  have hlw0 := Lib.hid (Nat.le_of_lt (Nat.lt_trans lw0 hwz.out))
                  go_wp2_with (go_at_call 44; refine HIH.out.mono ?_; rintro e w5 ⟨rfl, hm5, hf5⟩)
                  exact HEe.out _ hm5 (HF5.out.trans (hf5.mono hlw0.out))
              · obtain rfl : j = np := by omega
                have HPe : Hid (parts (vis F k) G.ps ⟨2, 1, own G⟩ L1 = (0, n, Lk)) := by
                  have := HPa.out; rwa [List.take_of_length_le (by rw [HNp.out]; exact Nat.le_refl _)] at this
                obtain ⟨hK1, _, hNb⟩ := HPF.out _ _ _ _ _ HPe.out HBd.out (by have := HO.out; exact ⟨rfl, by dsimp only; omega, by dsimp only; omega, by dsimp only; omega, by dsimp only; omega⟩)
                have hlk : g < Lk.length := by rw [hK1.1, HLl.out]; exact hg
                have HEe : Hid (∀ w', NstM w' b (Lk.set g n) → FrX w.heap.size b w w' → VisPost F (k + 1) g L b w (.returned (.int .i64 0)) w') := fun w' h1 h2 => by
                  have e : vis F (k + 1) g L = (0, Lk.set g n) := by
                    rw [HE.out, HPe.out]; rfl
                  exact ⟨by rw [e], by rw [e]; exact h1, h2⟩
                have hst : (2 : Int) = (n.st.val : Int) := by rw [hNb.1]; rfl
                have HEnd := Lib.hid (HMk.out.end_ hlk n)
                rw [← hst] at HEnd
                have g0 := HMk.out.free (j := 0) hlk (by omega)
                have g1 := HMk.out.free (j := 1) hlk (by omega)
                have g2 := HMk.out.free (j := 2) hlk (by omega)
                obtain ⟨s0, s1, s2⟩ := HMk.out.cells hlk
                rw [Nat.add_zero] at g0
                have hne2 : b ≠ w2.heap.size := by omega
                clear hK1 hNb hst
                generalize VisPost F (k + 1) g L b w = Q at *
                generalize n.dp = dn at *
                generalize n.pt = pn at *
                have HF9 := Lib.hid (((HFk.out.put (g * 3) (.int .i64 2)).put (g * 3 + 1) (.int .i64 dn)).put (g * 3 + 2) (.int .i64 pn))
                go_wp2
                exact HEe.out _ HEnd.out HF9.out
end Go.Proofs.YtefkglmdkjkbiaaDoor
