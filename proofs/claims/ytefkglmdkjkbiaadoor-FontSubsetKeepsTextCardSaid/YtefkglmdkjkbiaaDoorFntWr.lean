/- The walk of written. -/
import Derived.Test.YtefkglmdkjkbiaaDoorPackS
import Derived.Test.YtefkglmdkjkbiaaDoorCrcSum
import Derived.Test.YtefkglmdkjkbiaaDoorFntGl2
namespace Go.Proofs.YtefkglmdkjkbiaaDoor
open Go.RowKit Fnt
theorem alloc_size (w : World) (o : Obj) : (w.alloc o).heap.size = w.heap.size + 1 := by simp
theorem flat_next {α : Type} (f : α → List UInt8) (l : List α) (i : Nat) (d : α) (h : i < l.length) : (l.take (i + 1)).flatMap f = (l.take i).flatMap f ++ f (l.getD i d) := by
  rw [take_next l i d h, List.flatMap_append]; simp
theorem flat_len {α : Type} (f : α → List UInt8) (m : Nat) (l : List α) (h : ∀ a ∈ l, (f a).length ≤ m) (i : Nat) : ((l.take i).flatMap f).length ≤ i * m := by
  have : ∀ (l : List α), (∀ a ∈ l, (f a).length ≤ m) → (l.flatMap f).length ≤ l.length * m := by
    intro l
    induction l with
    | nil => simp
    | cons x l ih =>
      intro h
      have h1 := h x (by simp)
      have h2 := ih fun a ha => h a (by simp [ha])
      simp only [List.flatMap_cons, List.length_append, List.length_cons, Nat.add_mul]; omega
  have h1 := this (l.take i) fun a ha => h a (List.mem_of_mem_take ha)
  exact Nat.le_trans h1 (Nat.mul_le_mul (List.length_take_le _ _) (Nat.le_refl _))
theorem wPt_len (p : Pt) : (wPt p).length = 5 := by simp [wPt, be_length]
theorem wPart_len (p : Part) : (wPart p).length = 5 := by simp [wPart, be_length]
theorem wCon_len (c : List Pt) (h : contourE c = 0) : (wCon c).length ≤ 161 := by
  have h1 := flat_len wPt 5 c (fun a _ => Nat.le_of_eq (wPt_len a)) c.length
  rw [List.take_length] at h1
  have := (contour_ok h).2.1
  unfold wCon; rw [List.length_append, be_length]; omega
theorem wGl_len (g : Gl) (n : Nat) (h : GlOk g n) : (wGl g).length ≤ 1312 := by
  have h1 := flat_len wCon 161 g.cs (fun a ha => wCon_len a (h.con a ha)) g.cs.length
  have h2 := flat_len wPart 5 g.ps (fun a _ => Nat.le_of_eq (wPart_len a)) g.ps.length
  rw [List.take_length] at h1 h2
  have := h.cs; have := h.ps
  unfold wGl; simp only [List.length_append, be_length]; omega
theorem wRg_len (m : Rg) : (wRg m).length = 7 := by simp [wRg, be_length]
theorem wKp_len (m : Kp) : (wKp m).length = 4 := by simp [wKp, be_length]
theorem gs_get {F : Font} {i : Nat} : F.gs.getD i default = gl F i := rfl
set_option maxRecDepth 100000 in
set_option maxHeartbeats 8000000 in
theorem written_any (F : Font) (fv : Value) (ok : Nat → Prop) (w : World) (hf : FntV w ok fv F) (hN : F.gs.length ≤ 128) (hF : ∀ i, i < F.gs.length → GlOk (gl F i) F.gs.length) (hM : F.map.length ≤ 64) (hK : F.kern.length ≤ 128) (hT : Tab w) (h0 : 0 < w.heap.size) :
    Calls Tryd.prog 37 #[fv] w fun e w' => e = .returned (.string ⟨(Fnt.written F).toArray⟩) ∧ Below w.heap.size w w' := by
  obtain ⟨vg, vm, vk, rfl, hgs, hmp, hkn⟩ := hf
  obtain ⟨Ag, cg, rfl, hg1, hg2⟩ : ∃ A c, vg = .slice A F.gs.length c ∧ F.gs.length ≤ c ∧ c ≤ maxLen := by
    obtain ⟨vs, ⟨A, c, e, a, b, _⟩, _⟩ := hgs
    exact ⟨A, c, e, a, b⟩
  obtain ⟨Am, cm, rfl⟩ := SlM.form hmp
  obtain ⟨Ak, ck, rfl⟩ := SlM.form hkn
  have HG := Lib.hid hgs
  have HMp := Lib.hid hmp
  have HKn := Lib.hid hkn
  have HT := Lib.hid hT
  have HFo := Lib.hid hF
  have cmc := hmp.caps
  have ckc := hkn.caps
  unfold maxLen at cmc ckc
  have HLg : Hid (∀ i, ((F.gs.take i).flatMap wGl).length ≤ i * 1312) := fun i => flat_len wGl 1312 F.gs (fun a ha => by
    obtain ⟨j, hj, rfl⟩ := List.mem_iff_getElem.1 ha
    have := hF j hj
    unfold gl at this
    rw [List.getD_eq_getElem?_getD, List.getElem?_eq_getElem hj] at this
    exact wGl_len _ _ this) i
  have HBase : Hid (∀ o, Below w.heap.size w (w.alloc o)) := fun o => (Below.refl _ _).alloc (Nat.le_refl _) o
  have hk1 := Blk.new w 26 #[.int .i64 F.unit, .slice Ag F.gs.length cg, .slice Am F.map.length cm, .slice Ak F.kern.length ck]
  have hb1 := HBase.out (.cells #[.int .i64 F.unit, .slice Ag F.gs.length cg, .slice Am F.map.length cm, .slice Ak F.kern.length ck] 26)
  generalize hun : F.unit = un at *
  generalize hng : F.gs.length = N at *
  generalize hnm : F.map.length = nm at *
  generalize hnk : F.kern.length = nk at *
  generalize hw1 : w.alloc (.cells #[.int .i64 un, .slice Ag N cg, .slice Am nm cm, .slice Ak nk ck] 26) = w1 at *
  have hz1 : Hid (w1.heap.size = w.heap.size + 1) := by rw [← hw1]; simp [Hid]
  have hk5 := (((hk1.alloc (.cells #[.pointer none, .slice none 0 0] 146)).alloc (.cells #[.pointer none, .slice none 0 0] 146)).alloc (.cells #[.pointer none, .slice none 0 0] 146)).alloc (.cells #[.pointer none, .slice none 0 0] 146)
  have hb5 := (((hb1.alloc hb1.size (.cells #[.pointer none, .slice none 0 0] 146)).alloc (by have := hb1.size; simp; omega) (.cells #[.pointer none, .slice none 0 0] 146)).alloc (by have := hb1.size; simp; omega) (.cells #[.pointer none, .slice none 0 0] 146)).alloc (by have := hb1.size; simp; omega) (.cells #[.pointer none, .slice none 0 0] 146)
  have pa := (((Blk.new w1 146 #[.pointer none, .slice none 0 0]).alloc (.cells #[.pointer none, .slice none 0 0] 146)).alloc (.cells #[.pointer none, .slice none 0 0] 146)).alloc (.cells #[.pointer none, .slice none 0 0] 146)
  have pb := ((Blk.new (w1.alloc (.cells #[.pointer none, .slice none 0 0] 146)) 146 #[.pointer none, .slice none 0 0]).alloc (.cells #[.pointer none, .slice none 0 0] 146)).alloc (.cells #[.pointer none, .slice none 0 0] 146)
  have pc := (Blk.new ((w1.alloc (.cells #[.pointer none, .slice none 0 0] 146)).alloc (.cells #[.pointer none, .slice none 0 0] 146)) 146 #[.pointer none, .slice none 0 0]).alloc (.cells #[.pointer none, .slice none 0 0] 146)
  have pd := Blk.new (((w1.alloc (.cells #[.pointer none, .slice none 0 0] 146)).alloc (.cells #[.pointer none, .slice none 0 0] 146)).alloc (.cells #[.pointer none, .slice none 0 0] 146)) 146 #[.pointer none, .slice none 0 0]
  have hz5 : Hid (((((w1.alloc (.cells #[.pointer none, .slice none 0 0] 146)).alloc (.cells #[.pointer none, .slice none 0 0] 146)).alloc (.cells #[.pointer none, .slice none 0 0] 146)).alloc (.cells #[.pointer none, .slice none 0 0] 146)).heap.size = w1.heap.size + 4) := by simp [Hid]
  simp only [alloc_size] at pb pc pd
  generalize hw5 : (((w1.alloc (.cells #[.pointer none, .slice none 0 0] 146)).alloc (.cells #[.pointer none, .slice none 0 0] 146)).alloc (.cells #[.pointer none, .slice none 0 0] 146)).alloc (.cells #[.pointer none, .slice none 0 0] 146) = w5 at *
  have q1 := hk5.cell 1
  have q2 := hk5.cell 2
  have q3 := hk5.cell 3
  simp at q1 q2 q3
  have HK5 := Lib.hid hk5
  have HB5 := Lib.hid hb5
  have PA := Lib.hid pa
  have PB := Lib.hid pb
  have PC := Lib.hid pc
  have PD := Lib.hid pd
  clear hk1 hb1 hk5 hb5 pa pb pc pd
  have HUn := Lib.hid hun
  have HNg := Lib.hid hng
  have HNm := Lib.hid hnm
  have HNk := Lib.hid hnk
  clear hmp hkn hgs hT hF hun hng hnm hnk
  go_enter Tryd.func37, Tryd.ntmps37
  go_wp2
  clear q1 q2 q3 hw5 hw1
  generalize w1.heap.size = B at *
  generalize hR1 : w5.heap.size = R1 at *
  have HR1 := Lib.hid hR1
  have hBR : B + 3 < R1 := by have := hz5.out; omega
  clear hR1
  have HSt0 : Hid (St R1 B [] w5 w5) := St.begin_ (pk_fresh PA.out) (Nat.le_of_eq HR1.out.symm)
  go_loopw [8, 25] (fun _ vi wr => ∃ i : Nat, i ≤ N ∧ vi = .int .i64 i ∧ St R1 B ((F.gs.take i).flatMap wGl) w5 wr) (fun _ i _ => N - (intOf i).toNat)
  case atStart => exact ⟨0, by omega, rfl, HSt0.out⟩
  case round =>
    obtain ⟨i, hi, rfl, hst⟩ := hrel
    have HSt := Lib.hid hst
    by_cases hlt : i < N
    · obtain ⟨bg, og, capg, vs, ev, hokg, hbg, _, _, hgc⟩ := Gls.cells HG.out (by rw [HNg.out]; omega)
      injection ev with e1 e2 e3
      subst e1 e3
      clear e2
      obtain ⟨d0, d1, d2, hcs, hps⟩ := hgc i (by rw [HNg.out]; exact hlt)
      have HSuc := Lib.hid (flat_next wGl F.gs i default (by rw [HNg.out]; exact hlt))
      have hl0 := HLg.out i
      have hl0' : ((F.gs.take i).flatMap wGl).length ≤ 200000 := by omega
      generalize (F.gs.take i).flatMap wGl = l0 at *
      have HGl := Lib.hid (HFo.out i (by first | exact hlt | (rw [HNg.out]; exact hlt)))
      rw [gs_get] at d0 hcs hps HSuc
      generalize gl F i = G at *
      have hbg1 : bg < B := by have := hz1.out; omega
      have hbgR : bg < R1 := by omega
      replace d0 := ((hst.fr.cell hbgR (by omega) _).trans (HB5.out.cell (p := ⟨bg, og + i * 3, none⟩) hbg)).trans d0
      replace d1 := ((hst.fr.cell hbgR (by omega) _).trans (HB5.out.cell (p := ⟨bg, og + i * 3 + 1, none⟩) hbg)).trans d1
      replace d2 := ((hst.fr.cell hbgR (by omega) _).trans (HB5.out.cell (p := ⟨bg, og + i * 3 + 2, none⟩) hbg)).trans d2
      have HFr : Hid (∀ ww, FrX R1 B w5 ww → ∀ k, k < w.heap.size → ww.heap[k]? = w.heap[k]?) := fun ww h k hk => (h.block k (by have := hz1.out; omega) (by have := hz1.out; omega)).trans (HB5.out.block k hk)
      generalize (vs i).1 = vc at *
      generalize (vs i).2 = vp at *
      obtain ⟨Ac, cc, rfl, hn1, hn2⟩ := hcs.form
      obtain ⟨Ap, cp, rfl, hq1, hq2⟩ := hps.form
      have HCs := Lib.hid hcs
      have HPs := Lib.hid hps
      have hc8 := HGl.out.cs
      have hp4 := HGl.out.ps
      generalize hnc : G.cs.length = nc at *
      generalize hnp : G.ps.length = np at *
      have HNc := Lib.hid hnc
      have HNp := Lib.hid hnp
      have hs6 := (hst.alloc (.cells #[.int .i64 G.adv, .slice Ac nc cc, .slice Ap np cp] 84)).again
      have hk6 := Blk.new wr 84 #[.int .i64 G.adv, .slice Ac nc cc, .slice Ap np cp]
      have hz6 : wr.heap.size ≠ B := by have := hst.lt; omega
      have HT6 := Lib.hid (hst.alloc (.cells #[.int .i64 G.adv, .slice Ac nc cc, .slice Ap np cp] 84))
      generalize hw6 : wr.alloc (.cells #[.int .i64 G.adv, .slice Ac nc cc, .slice Ap np cp] 84) = w6 at *
      have q0 := hk6.cell 0
      simp at q0
      have HS6 := Lib.hid hs6
      have HK6 := Lib.hid hk6
      clear hst hgc hcs hps hnc hnp hs6 hk6 hl0
      go_wp2_with fail
      refine (put1 HS6.out rfl 2 2 rfl _ (by omega) (by omega) (by omega)).mono ?_
      rintro e w7 ⟨rfl, hs7⟩
      have hk7 := hs7.blk HK6.out (by decide) hz6
      have q1 := hk7.cell 1
      have q2 := hk7.cell 2
      simp at q1 q2
      have HS7 := Lib.hid hs7
      have HK7 := Lib.hid hk7
      clear hs7 hk7 q0 hw6 d0 d1 d2
      go_wp2_with fail
      refine (put2 HS7.out rfl 1 1 rfl _ _ (by omega) (by omega) (by rw [List.length_append, be_length]; omega)).mono ?_
      rintro e w8 ⟨rfl, hs8⟩
      have hk8 := hs8.blk HK6.out (by decide) hz6
      have q1 := hk8.cell 1
      simp at q1
      have HS8 := Lib.hid hs8.again
      have HK8 := Lib.hid hk8
      have HT8 := Lib.hid (HT6.out.trans hs8)
      clear hs8 hk8
      go_wp2
      have hl1 : (l0 ++ be 2 G.adv ++ (be 1 (nc : Int) ++ be 1 (np : Int))).length ≤ 200004 := by simp only [List.length_append, be_length]; omega
      have HL1 : Hid (l0 ++ wGl G = l0 ++ be 2 G.adv ++ (be 1 (nc : Int) ++ be 1 (np : Int)) ++ G.cs.flatMap wCon ++ G.ps.flatMap wPart) := by
        unfold Hid wGl; rw [HNc.out, HNp.out]; simp only [List.append_assoc]
      generalize l0 ++ be 2 G.adv ++ (be 1 (nc : Int) ++ be 1 (np : Int)) = l1 at *
      go_loopw [44] (fun vi wq => ∃ j : Nat, j ≤ nc ∧ vi = .int .i64 j ∧ St R1 B (l1 ++ (G.cs.take j).flatMap wCon) w8 wq) (fun i _ => nc - (intOf i).toNat)
      case atStart => exact ⟨0, by omega, rfl, by simpa using HS8.out⟩
      case round =>
        rename_i wq
        obtain ⟨j, hj, rfl, hst⟩ := hrel
        have HSt2 := Lib.hid hst
        have HTq := Lib.hid (HT8.out.trans hst)
        by_cases hlt2 : j < nc
        · obtain ⟨bc, oc, capc, cvs, ev, hokc, hbc, _, _, hcc⟩ := Cons.cells HCs.out (by rw [HNc.out]; omega)
          injection ev with e1 e2 e3
          subst e1 e3
          clear e2
          obtain ⟨d0, hpt⟩ := hcc j (by rw [HNc.out]; exact hlt2)
          have hmem : G.cs.getD j [] ∈ G.cs := by
            rw [List.getD_eq_getElem?_getD, List.getElem?_eq_getElem (by rw [HNc.out]; exact hlt2)]; exact List.getElem_mem _
          have hcl := (contour_ok (HGl.out.con _ hmem)).2.1
          have HSuc2 := Lib.hid (flat_next wCon G.cs j [] (by rw [HNc.out]; exact hlt2))
          have hl2 := flat_len wCon 161 G.cs (fun a ha => wCon_len a (HGl.out.con a ha)) j
          have hl2' : (l1 ++ (G.cs.take j).flatMap wCon).length ≤ 202000 := by rw [List.length_append]; omega
          have HAs2 : Hid (∀ x, l1 ++ ((G.cs.take j).flatMap wCon ++ x) = l1 ++ (G.cs.take j).flatMap wCon ++ x) := fun x => (List.append_assoc _ _ _).symm
          generalize l1 ++ (G.cs.take j).flatMap wCon = l2 at *
          generalize G.cs.getD j [] = C at *
          obtain ⟨Ai, ci, hei⟩ := SlM.form hpt
          rw [hei] at d0
          have HPt : Hid (Pts w ok (.slice Ai C.length ci) C) := by rw [← hei]; exact hpt
          have hcaps := HPt.out.caps
          unfold maxLen at hcaps
          replace d0 := (World.cell?_of_block (w := w) (a := ⟨bc, oc + j, none⟩) (HFr.out _ HTq.out.fr _ hbc)).trans d0
          generalize hnl : C.length = nl at *
          have HNl := Lib.hid hnl
          clear hst hcc hpt hmem hnl hei hl2
          go_wp2_with fail
          refine (put1 HSt2.out rfl 1 1 rfl _ (by omega) (by omega) (by omega)).mono ?_
          rintro e w10 ⟨rfl, hs10⟩
          have HS10 := Lib.hid hs10.again
          have HT10 := Lib.hid (HT8.out.trans hs10)
          have HU10 := Lib.hid hs10
          have hl3 : (l2 ++ be 1 (nl : Int)).length ≤ 202001 := by rw [List.length_append, be_length]; omega
          have HC1 : Hid (l2 ++ wCon C = l2 ++ be 1 (nl : Int) ++ C.flatMap wPt) := by
            unfold Hid wCon; rw [HNl.out]; simp only [List.append_assoc]
          generalize l2 ++ be 1 (nl : Int) = l3 at *
          clear hs10 d0
          go_wp2
          go_loopw [54] (fun vi wq => ∃ m : Nat, m ≤ nl ∧ vi = .int .i64 m ∧ St R1 B (l3 ++ (C.take m).flatMap wPt) w10 wq) (fun i _ => nl - (intOf i).toNat)
          case atStart => exact ⟨0, by omega, rfl, by simpa using HS10.out⟩
          case round =>
            obtain ⟨m, hm, rfl, hst⟩ := hrel
            have HSt3 := Lib.hid hst
            have HTx := Lib.hid (HT10.out.trans hst)
            by_cases hlt3 : m < nl
            · obtain ⟨bp, op, capp, ev, hokp, hbp, _, _, hpp⟩ := Pts.cells HPt.out (by rw [HNl.out]; omega)
              injection ev with e1 e2 e3
              subst e1 e3
              clear e2
              obtain ⟨d0, d1, d2⟩ := hpp m (by rw [HNl.out]; exact hlt3)
              have HSuc3 := Lib.hid (flat_next wPt C m default (by rw [HNl.out]; exact hlt3))
              rw [show C.getD m default = pt C m from rfl] at HSuc3
              have hl4 := flat_len wPt 5 C (fun a _ => Nat.le_of_eq (wPt_len a)) m
              have hl4' : (l3 ++ (C.take m).flatMap wPt).length ≤ 203000 := by rw [List.length_append]; omega
              have HAs3 : Hid (∀ x, l3 ++ ((C.take m).flatMap wPt ++ x) = l3 ++ (C.take m).flatMap wPt ++ x) := fun x => (List.append_assoc _ _ _).symm
              generalize l3 ++ (C.take m).flatMap wPt = l4 at *
              replace d0 := (World.cell?_of_block (w := w) (a := ⟨bp, op + m * 3, none⟩) (HFr.out _ HTx.out.fr _ hbp)).trans d0
              replace d1 := (World.cell?_of_block (w := w) (a := ⟨bp, op + m * 3 + 1, none⟩) (HFr.out _ HTx.out.fr _ hbp)).trans d1
              replace d2 := (World.cell?_of_block (w := w) (a := ⟨bp, op + m * 3 + 2, none⟩) (HFr.out _ HTx.out.fr _ hbp)).trans d2
              generalize pt C m = p at *
              obtain ⟨px, py, on⟩ := p
              dsimp only at d0 d1 d2
              have HW3 : Hid (wPt ⟨px, py, on⟩ = be 1 (bit on) ++ (be 2 px ++ be 2 py)) := rfl
              have hs11 := (hst.alloc (.cells #[.int .i64 px, .int .i64 py, .bool on] 64)).again
              have hk11 := Blk.new wr 64 #[.int .i64 px, .int .i64 py, .bool on]
              have hz11 : wr.heap.size ≠ B := by have := hst.lt; omega
              have HT11 := Lib.hid (hst.alloc (.cells #[.int .i64 px, .int .i64 py, .bool on] 64))
              generalize hw11 : wr.alloc (.cells #[.int .i64 px, .int .i64 py, .bool on] 64) = w11 at *
              have q0 := hk11.cell 2
              simp at q0
              have HS11 := Lib.hid hs11
              have HW11 := Lib.hid hw11
              have HZ11 : Hid (wr.heap.size + 1 = w11.heap.size) := by rw [← hw11]; exact (alloc_size _ _).symm
              have HK11 := Lib.hid hk11
              clear hst hpp hs11 hk11 hl4 hw11
              cases on
              all_goals
                go_wp2_with fail
                rw [HW11.out]
                refine (put1 HS11.out HZ11.out 1 1 rfl _ (by omega) (by omega) (by omega)).mono ?_
                rintro e w12 ⟨rfl, hs12⟩
                have hk12 := hs12.blk HK11.out (by decide) hz11
                have q1 := hk12.cell 0
                have q2 := hk12.cell 1
                simp at q1 q2
                have HS12 := Lib.hid hs12
                clear hs12 hk12 q0 d0 d1 d2
                go_wp2_with fail
                refine (put2 HS12.out rfl 2 2 rfl _ _ (by omega) (by omega) (by rw [List.length_append, be_length]; omega)).mono ?_
                rintro e w13 ⟨rfl, hs13⟩
                have HS13 := Lib.hid hs13
                clear hs13 q1 q2
                go_wp2
                go_roundw
                case rel => exact ⟨m + 1, by omega, by go_num, by rw [HSuc3.out, HAs3.out, HW3.out, ← List.append_assoc]; exact HT11.out.trans HS13.out⟩
                case measure => simp [intOf]; omega
            · obtain rfl : m = nl := by omega
              have HE3 : Hid (l3 ++ (C.take m).flatMap wPt = l2 ++ wCon C) := by
                unfold Hid; rw [HC1.out, List.take_of_length_le (by rw [HNl.out]; exact Nat.le_refl _)]
              clear hst
              go_wp2
              go_roundw
              case rel => exact ⟨j + 1, by omega, by go_num, by rw [HSuc2.out, HAs2.out, ← HE3.out]; exact HU10.out.trans HSt3.out⟩
              case measure => simp [intOf]; omega
        · obtain rfl : j = nc := by omega
          have hkq := HSt2.out.blk HK8.out (by decide) hz6
          have q2 := hkq.cell 2
          simp at q2
          have HL5 : Hid (l1 ++ (G.cs.take j).flatMap wCon = l1 ++ G.cs.flatMap wCon) := by
            unfold Hid; rw [List.take_of_length_le (by rw [HNc.out]; exact Nat.le_refl _)]
          have hl5 := flat_len wCon 161 G.cs (fun a ha => wCon_len a (HGl.out.con a ha)) j
          have hl5' : (l1 ++ (G.cs.take j).flatMap wCon).length ≤ 202000 := by rw [List.length_append]; omega
          rw [HL5.out] at hl5'
          have HSq := HSt2.out
          rw [HL5.out] at HSq
          have HS9 := Lib.hid HSq.again
          have HU9 := Lib.hid (HTq.out)
          rw [HL5.out] at HU9
          clear hst hkq hl5 HSq HTq HSt2 HL5
          have HL6 : Hid (l0 ++ wGl G = l1 ++ G.cs.flatMap wCon ++ G.ps.flatMap wPart) := HL1.out
          generalize l1 ++ G.cs.flatMap wCon = l5 at *
          go_wp2
          go_loopw [74] (fun vi wq => ∃ m : Nat, m ≤ np ∧ vi = .int .i64 m ∧ St R1 B (l5 ++ (G.ps.take m).flatMap wPart) wr wq) (fun i _ => np - (intOf i).toNat)
          case atStart => exact ⟨0, by omega, rfl, by simpa using HS9.out⟩
          case round =>
            rename_i wq
            obtain ⟨m, hm, rfl, hst⟩ := hrel
            have HSt3 := Lib.hid hst
            have HTx := Lib.hid (HU9.out.trans hst)
            by_cases hlt3 : m < np
            · obtain ⟨bp, op, capp, ev, hokp, hbp, _, _, hpp⟩ := Pas.cells HPs.out (by rw [HNp.out]; omega)
              injection ev with e1 e2 e3
              subst e1 e3
              clear e2
              obtain ⟨d0, d1, d2⟩ := hpp m (by rw [HNp.out]; exact hlt3)
              have HSuc3 := Lib.hid (flat_next wPart G.ps m default (by rw [HNp.out]; exact hlt3))
              have hl4 := flat_len wPart 5 G.ps (fun a _ => Nat.le_of_eq (wPart_len a)) m
              have hl4' : (l5 ++ (G.ps.take m).flatMap wPart).length ≤ 203000 := by rw [List.length_append]; omega
              have HAs3 : Hid (∀ x, l5 ++ ((G.ps.take m).flatMap wPart ++ x) = l5 ++ (G.ps.take m).flatMap wPart ++ x) := fun x => (List.append_assoc _ _ _).symm
              generalize l5 ++ (G.ps.take m).flatMap wPart = l4 at *
              replace d0 := (World.cell?_of_block (w := w) (a := ⟨bp, op + m * 3, none⟩) (HFr.out _ HTx.out.fr _ hbp)).trans d0
              replace d1 := (World.cell?_of_block (w := w) (a := ⟨bp, op + m * 3 + 1, none⟩) (HFr.out _ HTx.out.fr _ hbp)).trans d1
              replace d2 := (World.cell?_of_block (w := w) (a := ⟨bp, op + m * 3 + 2, none⟩) (HFr.out _ HTx.out.fr _ hbp)).trans d2
              generalize G.ps.getD m default = p at *
              obtain ⟨pg, px, py⟩ := p
              dsimp only at d0 d1 d2
              have HW3 : Hid (wPart ⟨pg, px, py⟩ = be 1 pg ++ (be 2 px ++ be 2 py)) := rfl
              have hs11 := (hst.alloc (.cells #[.int .i64 pg, .int .i64 px, .int .i64 py] 103)).again
              have hk11 := Blk.new wr 103 #[.int .i64 pg, .int .i64 px, .int .i64 py]
              have hz11 : wr.heap.size ≠ B := by have := hst.lt; omega
              have HT11 := Lib.hid (hst.alloc (.cells #[.int .i64 pg, .int .i64 px, .int .i64 py] 103))
              generalize hw11 : wr.alloc (.cells #[.int .i64 pg, .int .i64 px, .int .i64 py] 103) = w11 at *
              have q0 := hk11.cell 0
              simp at q0
              have HS11 := Lib.hid hs11
              have HW11 := Lib.hid hw11
              have HZ11 : Hid (wr.heap.size + 1 = w11.heap.size) := by rw [← hw11]; exact (alloc_size _ _).symm
              have HK11 := Lib.hid hk11
              clear hst hpp hs11 hk11 hl4 hw11 q2
              go_wp2_with fail
              rw [HW11.out]
              refine (put1 HS11.out HZ11.out 1 1 rfl _ (by omega) (by omega) (by omega)).mono ?_
              rintro e w12 ⟨rfl, hs12⟩
              have hk12 := hs12.blk HK11.out (by decide) hz11
              have q1 := hk12.cell 1
              have q2 := hk12.cell 2
              simp at q1 q2
              have HS12 := Lib.hid hs12
              clear hs12 hk12 q0 d0 d1 d2
              go_wp2_with fail
              refine (put2 HS12.out rfl 2 2 rfl _ _ (by omega) (by omega) (by rw [List.length_append, be_length]; omega)).mono ?_
              rintro e w13 ⟨rfl, hs13⟩
              have HS13 := Lib.hid hs13
              clear hs13 q1 q2
              go_wp2
              go_roundw
              case rel => exact ⟨m + 1, by omega, by go_num, by rw [HSuc3.out, HAs3.out, HW3.out, ← List.append_assoc]; exact HT11.out.trans HS13.out⟩
              case measure => simp [intOf]; omega
            · obtain rfl : m = np := by omega
              have HE3 : Hid (l5 ++ (G.ps.take m).flatMap wPart = l0 ++ wGl G) := by
                unfold Hid; rw [HL6.out, List.take_of_length_le (by rw [HNp.out]; exact Nat.le_refl _)]
              clear hst q2
              go_wp2
              go_roundw
              case rel => exact ⟨i + 1, by omega, by go_num, by rw [HSuc.out, ← HE3.out]; exact HTx.out⟩
              case measure => simp [intOf]; omega
    · obtain rfl : i = N := by omega
      have HSe : Hid (St R1 B (F.gs.flatMap wGl) w5 wr) := by
        have := hst
        rw [List.take_of_length_le (by rw [HNg.out]; exact Nat.le_refl _)] at this
        exact this
      clear hst HSt
      have HI1 : Hid (PkIn R1 wr.heap.size B (F.gs.flatMap wGl) wr) := pk_in HSe.out.pk
      have HX2k := Lib.hid (HSe.out.blk HK5.out (by decide) (by have := hz1.out; omega))
      have HX2p2 := Lib.hid (HSe.out.blk PB.out (by decide) (by omega))
      have HX2p3 := Lib.hid (HSe.out.blk PC.out (by decide) (by omega))
      have HX2p4 := Lib.hid (HSe.out.blk PD.out (by decide) (by omega))
      have HXw2 : Hid (Below w.heap.size w wr) := HB5.out.trans (HSe.out.fr.below (by have := hz1.out; omega) (by have := hz1.out; omega))
      have hRR := HSe.out.hR
      have hl12 := HX2p4.out.lt
      obtain ⟨wp2, rfl⟩ : ∃ x, x = wr := ⟨_, rfl⟩
      generalize hR2 : wp2.heap.size = R2 at *
      have HR2 := Lib.hid hR2
      have HXb2 : Hid (w.heap.size < R2) := by have := hz1.out; unfold Hid; omega
      clear hR2

      have hq2 := HX2k.out.cell 2
      simp at hq2
      have HP2 : Hid (St R2 (B + 1) [] wp2 wp2) := St.begin_ (pk_fresh HX2p2.out) (Nat.le_of_eq HR2.out.symm)
      go_wp2
      clear hq2
      go_loopw [93] (fun vi wq => ∃ i : Nat, i ≤ nm ∧ vi = .int .i64 i ∧ St R2 (B + 1) ((F.map.take i).flatMap wRg) wp2 wq) (fun i _ => nm - (intOf i).toNat)
      case atStart => exact ⟨0, by omega, rfl, HP2.out⟩
      case round =>
        obtain ⟨i, hi, rfl, hst⟩ := hrel
        have HSt := Lib.hid hst
        by_cases hlt : i < nm
        · obtain ⟨bm, om, capm, ev, _, hbm, _, _, hcm⟩ := rgs_cells (w := w) (ok := ok) (v := .slice Am nm cm) (l := F.map) (by rw [HNm.out]; exact HMp.out) (by rw [HNm.out]; omega)
          injection ev with e1 e2 e3
          subst e1 e3
          clear e2
          obtain ⟨d0, d1, d2⟩ := hcm i (by rw [HNm.out]; exact hlt)
          have HSuc := Lib.hid (flat_next wRg F.map i default (by rw [HNm.out]; exact hlt))
          have hl0 := flat_len wRg 8 F.map (fun a _ => by rw [wRg_len]; omega) i
          have hl0' : ((F.map.take i).flatMap wRg).length ≤ 2000 := by omega
          generalize (F.map.take i).flatMap wRg = l0 at *
          have hbR : bm < R2 := by have := HXb2.out; omega
          have hbB : bm < B := by have := hz1.out; omega
          replace d0 := ((hst.fr.cell hbR (by omega) _).trans (HXw2.out.cell (p := ⟨bm, om + i * 3, none⟩) hbm)).trans d0
          replace d1 := ((hst.fr.cell hbR (by omega) _).trans (HXw2.out.cell (p := ⟨bm, om + i * 3 + 1, none⟩) hbm)).trans d1
          replace d2 := ((hst.fr.cell hbR (by omega) _).trans (HXw2.out.cell (p := ⟨bm, om + i * 3 + 2, none⟩) hbm)).trans d2
          generalize F.map.getD i default = p at *
          obtain ⟨x0, x1, x2⟩ := p
          dsimp only at d0 d1 d2
          have HW3 : Hid (wRg ⟨x0, x1, x2⟩ = be 3 x0 ++ be 3 x1 ++ be 1 x2) := rfl
          have hs11 := (hst.alloc (.cells #[.int .i64 x0, .int .i64 x1, .int .i64 x2] 49)).again
          have hk11 := Blk.new wr 49 #[.int .i64 x0, .int .i64 x1, .int .i64 x2]
          have hz11 : wr.heap.size ≠ B + 1 := by have := hst.lt; omega
          have HT11 := Lib.hid (hst.alloc (.cells #[.int .i64 x0, .int .i64 x1, .int .i64 x2] 49))
          generalize hw11 : wr.alloc (.cells #[.int .i64 x0, .int .i64 x1, .int .i64 x2] 49) = w11 at *
          have q0 := hk11.cell 0
          have q1 := hk11.cell 1
          simp at q0 q1
          have HS11 := Lib.hid hs11
          have HW11 := Lib.hid hw11
          have HZ11 : Hid (wr.heap.size + 1 = w11.heap.size) := by rw [← hw11]; exact (alloc_size _ _).symm
          have HK11 := Lib.hid hk11
          clear hst hcm hs11 hk11 hl0 hw11
          go_wp2_with fail
          rw [HW11.out]
          refine (put2 HS11.out HZ11.out 3 3 rfl _ _ (by omega) (by omega) (by omega)).mono ?_
          rintro e w12 ⟨rfl, hs12⟩
          have hk12 := hs12.blk HK11.out (by decide) hz11
          have q2 := hk12.cell 2
          simp at q2
          have HS12 := Lib.hid hs12
          clear hs12 hk12 q0 q1 d0 d1 d2
          go_wp2_with fail
          refine (put1 HS12.out rfl 1 1 rfl _ (by omega) (by omega) (by simp only [List.length_append, be_length]; omega)).mono ?_
          rintro e w13 ⟨rfl, hs13⟩
          have HS13 := Lib.hid hs13
          clear hs13 q2
          go_wp2
          go_roundw
          case rel => exact ⟨i + 1, by omega, by go_num, by rw [HSuc.out, HW3.out, ← List.append_assoc]; exact HT11.out.trans HS13.out⟩
          case measure => simp [intOf]; omega
        · obtain rfl : i = nm := by omega
          have HSe : Hid (St R2 (B + 1) (F.map.flatMap wRg) wp2 wr) := by
            have := hst
            rw [List.take_of_length_le (by rw [HNm.out]; exact Nat.le_refl _)] at this
            exact this
          clear hst HSt
          have HI1b : Hid (PkIn R1 R2 B (F.gs.flatMap wGl) wr) := pkIn_keep HI1.out fun k _ hk => HSe.out.fr.block k (by omega) (by omega)
          have HI2 : Hid (PkIn R2 wr.heap.size (B + 1) (F.map.flatMap wRg) wr) := pk_in HSe.out.pk
          have HX3k := Lib.hid (HSe.out.blk HX2k.out (by decide) (by have := hz1.out; omega))
          have HX3p3 := Lib.hid (HSe.out.blk HX2p3.out (by decide) (by omega))
          have HX3p4 := Lib.hid (HSe.out.blk HX2p4.out (by decide) (by omega))
          have HXw3 : Hid (Below w.heap.size w wr) := HXw2.out.trans (HSe.out.fr.below (Nat.le_of_lt HXb2.out) (by have := hz1.out; omega))
          have hRR3 := HSe.out.hR
          have hl34 := HX3p4.out.lt
          obtain ⟨wp3, rfl⟩ : ∃ x, x = wr := ⟨_, rfl⟩
          generalize hR3 : wp3.heap.size = R3 at *
          have HR3 := Lib.hid hR3
          have HXb3 : Hid (w.heap.size < R3) := by have := hz1.out; unfold Hid; omega
          clear hR3

          have hq3 := HX3k.out.cell 3
          simp at hq3
          have HP3 : Hid (St R3 (B + 1 + 1) [] wp3 wp3) := St.begin_ (pk_fresh HX3p3.out) (Nat.le_of_eq HR3.out.symm)
          go_wp2
          clear hq3
          go_loopw [111] (fun vi wq => ∃ i : Nat, i ≤ nk ∧ vi = .int .i64 i ∧ St R3 (B + 1 + 1) ((F.kern.take i).flatMap wKp) wp3 wq) (fun i _ => nk - (intOf i).toNat)
          case atStart => exact ⟨0, by omega, rfl, HP3.out⟩
          case round =>
            obtain ⟨i, hi, rfl, hst⟩ := hrel
            have HSt := Lib.hid hst
            by_cases hlt : i < nk
            · obtain ⟨bm, om, capm, ev, _, hbm, _, _, hcm⟩ := kps_cells (w := w) (ok := ok) (v := .slice Ak nk ck) (l := F.kern) (by rw [HNk.out]; exact HKn.out) (by rw [HNk.out]; omega)
              injection ev with e1 e2 e3
              subst e1 e3
              clear e2
              obtain ⟨d0, d1, d2⟩ := hcm i (by rw [HNk.out]; exact hlt)
              have HSuc := Lib.hid (flat_next wKp F.kern i default (by rw [HNk.out]; exact hlt))
              have hl0 := flat_len wKp 8 F.kern (fun a _ => by rw [wKp_len]; omega) i
              have hl0' : ((F.kern.take i).flatMap wKp).length ≤ 2000 := by omega
              generalize (F.kern.take i).flatMap wKp = l0 at *
              have hbR : bm < R3 := by have := HXb3.out; omega
              have hbB : bm < B := by have := hz1.out; omega
              replace d0 := ((hst.fr.cell hbR (by omega) _).trans (HXw3.out.cell (p := ⟨bm, om + i * 3, none⟩) hbm)).trans d0
              replace d1 := ((hst.fr.cell hbR (by omega) _).trans (HXw3.out.cell (p := ⟨bm, om + i * 3 + 1, none⟩) hbm)).trans d1
              replace d2 := ((hst.fr.cell hbR (by omega) _).trans (HXw3.out.cell (p := ⟨bm, om + i * 3 + 2, none⟩) hbm)).trans d2
              generalize F.kern.getD i default = p at *
              obtain ⟨x0, x1, x2⟩ := p
              dsimp only at d0 d1 d2
              have HW3 : Hid (wKp ⟨x0, x1, x2⟩ = be 1 x0 ++ be 1 x1 ++ be 2 x2) := rfl
              have hs11 := (hst.alloc (.cells #[.int .i64 x0, .int .i64 x1, .int .i64 x2] 35)).again
              have hk11 := Blk.new wr 35 #[.int .i64 x0, .int .i64 x1, .int .i64 x2]
              have hz11 : wr.heap.size ≠ B + 1 + 1 := by have := hst.lt; omega
              have HT11 := Lib.hid (hst.alloc (.cells #[.int .i64 x0, .int .i64 x1, .int .i64 x2] 35))
              generalize hw11 : wr.alloc (.cells #[.int .i64 x0, .int .i64 x1, .int .i64 x2] 35) = w11 at *
              have q0 := hk11.cell 0
              have q1 := hk11.cell 1
              simp at q0 q1
              have HS11 := Lib.hid hs11
              have HW11 := Lib.hid hw11
              have HZ11 : Hid (wr.heap.size + 1 = w11.heap.size) := by rw [← hw11]; exact (alloc_size _ _).symm
              have HK11 := Lib.hid hk11
              clear hst hcm hs11 hk11 hl0 hw11
              go_wp2_with fail
              rw [HW11.out]
              refine (put2 HS11.out HZ11.out 1 1 rfl _ _ (by omega) (by omega) (by omega)).mono ?_
              rintro e w12 ⟨rfl, hs12⟩
              have hk12 := hs12.blk HK11.out (by decide) hz11
              have q2 := hk12.cell 2
              simp at q2
              have HS12 := Lib.hid hs12
              clear hs12 hk12 q0 q1 d0 d1 d2
              go_wp2_with fail
              refine (put1 HS12.out rfl 2 2 rfl _ (by omega) (by omega) (by simp only [List.length_append, be_length]; omega)).mono ?_
              rintro e w13 ⟨rfl, hs13⟩
              have HS13 := Lib.hid hs13
              clear hs13 q2
              go_wp2
              go_roundw
              case rel => exact ⟨i + 1, by omega, by go_num, by rw [HSuc.out, HW3.out, ← List.append_assoc]; exact HT11.out.trans HS13.out⟩
              case measure => simp [intOf]; omega
            · obtain rfl : i = nk := by omega
              have HSe : Hid (St R3 (B + 1 + 1) (F.kern.flatMap wKp) wp3 wr) := by
                have := hst
                rw [List.take_of_length_le (by rw [HNk.out]; exact Nat.le_refl _)] at this
                exact this
              clear hst HSt
              have HI1c : Hid (PkIn R1 R2 B (F.gs.flatMap wGl) wr) := pkIn_keep HI1b.out fun k _ hk => HSe.out.fr.block k (by omega) (by omega)
              have HI2c : Hid (PkIn R2 R3 (B + 1) (F.map.flatMap wRg) wr) := pkIn_keep HI2.out fun k _ hk => HSe.out.fr.block k (by omega) (by omega)
              have HI3c : Hid (PkIn R3 wr.heap.size (B + 1 + 1) (F.kern.flatMap wKp) wr) := pk_in HSe.out.pk
              have HX4k := Lib.hid (HSe.out.blk HX3k.out (by decide) (by have := hz1.out; omega))
              have HX4p4 := Lib.hid (HSe.out.blk HX3p4.out (by decide) (by omega))
              have HXw4 : Hid (Below w.heap.size w wr) := HXw3.out.trans (HSe.out.fr.below (Nat.le_of_lt HXb3.out) (by have := hz1.out; omega))
              have hRR4 := HSe.out.hR
              obtain ⟨wp4, rfl⟩ : ∃ x, x = wr := ⟨_, rfl⟩
              generalize hR4 : wp4.heap.size = R4 at *
              have HR4 := Lib.hid hR4
              have HXb4 : Hid (w.heap.size < R4) := by have := hz1.out; unfold Hid; omega
              clear hR4
              have HP4 : Hid (St R4 (B + 1 + 1 + 1) [] wp4 wp4) := St.begin_ (pk_fresh HX4p4.out) (Nat.le_of_eq HR4.out.symm)
              have hzb : w.heap.size ≠ B + 1 + 1 + 1 := by have := hz1.out; omega
              go_wp2_with fail
              refine (st_write HP4.out ⟨#[102, 111, 110, 116]⟩ (by decide) (by simp)).mono ?_
              rintro e w20 ⟨rfl, hs20⟩
              have q0 := (hs20.blk HX4k.out (by decide) hzb).cell 0
              simp at q0
              have hs20' : St R4 (B + 1 + 1 + 1) [102, 111, 110, 116] wp4 w20 := hs20
              have HS20 := Lib.hid hs20'
              clear hs20 hs20'
              go_wp2_with fail
              refine (put1 HS20.out rfl 2 2 rfl _ (by omega) (by omega) (by simp)).mono ?_
              rintro e w21 ⟨rfl, hs21⟩
              have hk21 := hs21.blk HX4k.out (by decide) hzb
              have q1 := hk21.cell 1
              have q2 := hk21.cell 2
              have q3 := hk21.cell 3
              simp at q1 q2 q3
              have HS21 := Lib.hid hs21
              clear hs21 hk21 q0
              go_wp2_with fail
              refine (put3 HS21.out rfl 1 1 rfl _ _ _ (by omega) (by omega) (by rw [List.length_append, be_length]; simp)).mono ?_
              rintro e w22 ⟨rfl, hs22⟩
              have hhd : St R4 (B + 1 + 1 + 1) (Fnt.head F) wp4 w22 := by
                unfold Fnt.head; rw [HUn.out, HNg.out, HNm.out, HNk.out]; exact hs22
              have HJ1 := pkIn_keep HI1c.out fun k _ hk => hhd.fr.block k (by omega) (by omega)
              have HJ2 := pkIn_keep HI2c.out fun k _ hk => hhd.fr.block k (by omega) (by omega)
              have HJ3 := pkIn_keep HI3c.out fun k _ hk => hhd.fr.block k (by omega) (by omega)
              have HS22 := Lib.hid hhd
              have HJ1' := Lib.hid HJ1
              have HJ2' := Lib.hid HJ2
              have HJ3' := Lib.hid HJ3
              clear hs22 hhd HJ1 HJ2 HJ3 q1 q2 q3
              go_wp2_with fail
              refine (pkIn_string HJ1'.out).mono ?_
              rintro e w23 ⟨rfl, hz23⟩
              have HZ23 := Lib.hid hz23
              have HJ2b := Lib.hid (pkIn_keep HJ2'.out fun k _ hk => hz23.block k (by omega))
              have HJ3b := Lib.hid (pkIn_keep HJ3'.out fun k _ hk => hz23.block k (by omega))
              clear hz23
              go_wp2_with fail
              refine (pkIn_string HJ2b.out).mono ?_
              rintro e w24 ⟨rfl, hz24⟩
              have HZ24 := Lib.hid hz24
              have HJ3c := Lib.hid (pkIn_keep HJ3b.out fun k _ hk => hz24.block k (by omega))
              clear hz24
              go_wp2_with fail
              refine (pkIn_string HJ3c.out).mono ?_
              rintro e w25 ⟨rfl, hz25⟩
              have HS25 : Hid (St R4 (B + 1 + 1 + 1) (Fnt.head F) w25 w25) := St.begin_ (pk_keep HS22.out.pk fun k _ hk => ((hz25.block k (by omega)).trans ((HZ24.out.block k (by omega)).trans (HZ23.out.block k (by omega))))) (by rw [hz25.size, HZ24.out.size, HZ23.out.size]; exact HS22.out.hR)
              have HBw : Hid (Below w.heap.size w w25) := ((((HXw4.out.trans (HS22.out.fr.below (Nat.le_of_lt HXb4.out) (by have := hz1.out; omega))).trans (HZ23.out.below (by have := hz1.out; omega))).trans (HZ24.out.below (Nat.le_of_lt HXb2.out))).trans (hz25.below (Nat.le_of_lt HXb3.out)))
              clear hz25
              go_wp2
              have HLs : Hid (∀ j, j < 3 → ([F.gs.flatMap wGl, F.map.flatMap wRg, F.kern.flatMap wKp].getD j []).length ≤ 170000) := by
                intro j hj
                have a1 := HLg.out F.gs.length
                have a2 := flat_len wRg 8 F.map (fun a _ => by rw [wRg_len]; omega) F.map.length
                have a3 := flat_len wKp 8 F.kern (fun a _ => by rw [wKp_len]; omega) F.kern.length
                rw [List.take_length] at a1 a2 a3
                have := HNg.out; have := HNm.out; have := HNk.out
                rcases (show j = 0 ∨ j = 1 ∨ j = 2 by omega) with rfl | rfl | rfl
                · show (F.gs.flatMap wGl).length ≤ 170000; omega
                · show (F.map.flatMap wRg).length ≤ 170000; omega
                · show (F.kern.flatMap wKp).length ≤ 170000; omega
              have HWr : Hid (Fnt.written F = Fnt.head F ++ [F.gs.flatMap wGl, F.map.flatMap wRg, F.kern.flatMap wKp].flatMap sect) := by
                unfold Hid Fnt.written; simp [List.append_assoc]
              have hlh : (Fnt.head F).length = 9 := by unfold Fnt.head; simp [be_length]
              have hb26 := Blk.new w25 9 #[.string ⟨(F.gs.flatMap wGl).toArray⟩, .string ⟨(F.map.flatMap wRg).toArray⟩, .string ⟨(F.kern.flatMap wKp).toArray⟩]
              have HC26 : Hid (∀ j, j < 3 → (#[.string ⟨(F.gs.flatMap wGl).toArray⟩, .string ⟨(F.map.flatMap wRg).toArray⟩, .string ⟨(F.kern.flatMap wKp).toArray⟩] : Array Value)[j]? = some (.string ⟨([F.gs.flatMap wGl, F.map.flatMap wRg, F.kern.flatMap wKp].getD j []).toArray⟩)) := by
                intro j hj
                rcases (show j = 0 ∨ j = 1 ∨ j = 2 by omega) with rfl | rfl | rfl <;> rfl
              have hs26 := (HS25.out.alloc (.cells #[.string ⟨(F.gs.flatMap wGl).toArray⟩, .string ⟨(F.map.flatMap wRg).toArray⟩, .string ⟨(F.kern.flatMap wKp).toArray⟩] 9)).again
              have hbw26 := HBw.out.alloc HBw.out.size (.cells #[.string ⟨(F.gs.flatMap wGl).toArray⟩, .string ⟨(F.map.flatMap wRg).toArray⟩, .string ⟨(F.kern.flatMap wKp).toArray⟩] 9)
              have hne26 : w25.heap.size ≠ B + 1 + 1 + 1 := by have := HS25.out.lt; omega
              generalize (#[.string ⟨(F.gs.flatMap wGl).toArray⟩, .string ⟨(F.map.flatMap wRg).toArray⟩, .string ⟨(F.kern.flatMap wKp).toArray⟩] : Array Value) = sa at *
              generalize w25.alloc (.cells sa 9) = w26 at *
              have HB26 := Lib.hid hb26
              have HS26 := Lib.hid hs26
              have HW26 := Lib.hid hbw26
              clear hb26 hs26 hbw26
              generalize hss : [F.gs.flatMap wGl, F.map.flatMap wRg, F.kern.flatMap wKp] = ss at *
              have hs3 : ss.length = 3 := by rw [← hss]; rfl
              have HSs := Lib.hid hs3
              clear hss hs3
              go_loopw [151] (fun vi wq => ∃ j : Nat, j ≤ 3 ∧ vi = .int .i64 j ∧ St R4 (B + 1 + 1 + 1) (Fnt.head F ++ (ss.take j).flatMap sect) w26 wq) (fun i _ => 3 - (intOf i).toNat)
              case atStart => exact ⟨0, by omega, rfl, by simpa using HS26.out⟩
              case round =>
                obtain ⟨j, hj, rfl, hst⟩ := hrel
                have HSt := Lib.hid hst
                by_cases hlt : j < 3
                · have c0 := ((hst.blk HB26.out (by decide) hne26).cell j).trans (HC26.out j hlt)
                  have HSuc := Lib.hid (flat_next sect ss j [] (by rw [HSs.out]; exact hlt))
                  have hl0 := flat_len sect 170006 ss (fun a ha => by
                    obtain ⟨q, hq, rfl⟩ := List.mem_iff_getElem.1 ha
                    have := HLs.out q (by rw [HSs.out] at hq; exact hq)
                    rw [List.getD_eq_getElem?_getD, List.getElem?_eq_getElem hq] at this
                    simp only [Option.getD_some] at this
                    unfold sect; simp only [List.length_append, be_length]; omega) j
                  have hl1 : (Fnt.head F ++ (ss.take j).flatMap sect).length ≤ 600000 := by rw [List.length_append]; omega
                  have hlT := HLs.out j hlt
                  have HAs : Hid (∀ x, Fnt.head F ++ ((ss.take j).flatMap sect ++ x) = Fnt.head F ++ (ss.take j).flatMap sect ++ x) := fun x => (List.append_assoc _ _ _).symm
                  generalize Fnt.head F ++ (ss.take j).flatMap sect = l0 at *
                  generalize ss.getD j [] = T at *
                  obtain ⟨s, hs⟩ : ∃ s : ByteArray, s = ⟨T.toArray⟩ := ⟨_, rfl⟩
                  rw [← hs] at c0
                  have hsl : s.data.toList = T := by rw [hs]
                  have hsz : s.size = T.length := by rw [hs]; simp [ByteArray.size]
                  have HSz := Lib.hid hsz
                  have HSl := Lib.hid hsl
                  have hz170 : s.size ≤ 170000 := by omega
                  have hTw := HT.out
                  have HT2 : Hid (∀ ww, St R4 (B + 1 + 1 + 1) l0 w26 wr → Below w.heap.size w ww → Tab ww) := fun ww _ hb i hi => (hb.cell (p := ⟨0, i, none⟩) h0).trans (hTw i hi)
                  clear hst hs hsl hsz hTw
                  go_wp2_with fail
                  refine (put1 HSt.out rfl 2 2 rfl _ (by omega) (by omega) (by omega)).mono ?_
                  rintro e w27 ⟨rfl, hs27⟩
                  have HS27 := Lib.hid hs27
                  have HT27 : Hid (Tab w27) := HT2.out w27 HSt.out (HW26.out.trans (hs27.fr.below (Nat.le_trans (Nat.le_of_lt HXb4.out) (Nat.le_refl _)) (by have := hz1.out; omega)))
                  have hsum : 0 ≤ ((Crc.sum s.data.toList).toNat : Int) ∧ ((Crc.sum s.data.toList).toNat : Int) < 4294967296 := ⟨by omega, by have := (Crc.sum s.data.toList).isLt; omega⟩
                  obtain ⟨hsum0, hsum1⟩ := hsum
                  have HSum := Lib.hid (sum_any s w27 (by unfold maxLen; omega) HT27.out)
                  have HWs : Hid (sect T = be 2 (s.size : Int) ++ be 4 ((Crc.sum s.data.toList).toNat : Int) ++ s.data.toList) := by
                    unfold Hid sect; rw [HSl.out, HSz.out]
                  generalize ((Crc.sum s.data.toList).toNat : Int) = cs at *
                  clear hs27 c0
                  go_wp2_with fail
                  refine HSum.out.mono ?_
                  rintro e w28 ⟨rfl, rfl⟩
                  go_wp2_with fail
                  refine (put1 HS27.out rfl 4 4 rfl _ (by omega) (by omega) (by rw [List.length_append, be_length]; omega)).mono ?_
                  rintro e w29 ⟨rfl, hs29⟩
                  have HS29 := Lib.hid hs29
                  clear hs29
                  go_wp2_with fail
                  refine (st_write HS29.out s (by simp only [List.length_append, be_length]; omega) (by intro e; have := congrArg List.length e; simp only [List.length_append, be_length, List.length_nil] at this; omega)).mono ?_
                  rintro e w30 ⟨rfl, hs30⟩
                  have HS30 := Lib.hid hs30
                  clear hs30
                  go_wp2
                  go_roundw
                  case rel => exact ⟨j + 1, by omega, by go_num, by rw [HSuc.out, HAs.out, HWs.out, ← List.append_assoc, ← List.append_assoc]; exact HS30.out⟩
                  case measure => simp [intOf]; omega
                · obtain rfl : j = 3 := by omega
                  have HPI := Lib.hid (pk_in hst.pk)
                  have HEn : Hid (Fnt.head F ++ (ss.take 3).flatMap sect = Fnt.written F) := by
                    unfold Hid; rw [HWr.out, List.take_of_length_le (by rw [HSs.out]; exact Nat.le_refl _)]
                  have HBe : Hid (Below w.heap.size w wr) := HW26.out.trans (hst.fr.below (Nat.le_of_lt HXb4.out) (by have := hz1.out; omega))
                  rw [HEn.out] at HPI
                  clear hst HSt
                  go_wp2_with fail
                  refine (pkIn_string HPI.out).mono ?_
                  rintro e w31 ⟨rfl, hz31⟩
                  have HBf : Hid (Below w.heap.size w w31) := HBe.out.trans (hz31.below (Nat.le_of_lt HXb4.out))
                  clear hz31
                  go_wp2
                  go_ret
                  exact ⟨rfl, HBf.out⟩
end Go.Proofs.YtefkglmdkjkbiaaDoor
