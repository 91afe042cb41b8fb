/- The walk of dict. The walk of leaf. The walk of object. -/
import Derived.Test.YthbdhijkdldmoaaGreatDoorObjList
import Derived.Test.YthbdhijkdldmoaaGreatDoorTokSmall
import Derived.Test.YthbdhijkdldmoaaGreatDoorObjInsO
import Derived.Test.YthbdhijkdldmoaaGreatDoorObjBs
import Derived.Deep.DeepCutAuto
import Derived.Deep.CutBlock
namespace Go.Proofs.YthbdhijkdldmoaaGreatDoor
open Go.RowKit Tk Ob
def dictR (r : Option ((List Tk.Src × List Ox) × Tk.Src)) : Option (Ox × Tk.Src) := match r with | none => none | some ((ks, os), l) => some (.mk 7 0 [] ks os, l)
set_option maxRecDepth 100000 in
set_option maxHeartbeats 16000000 in
theorem dict_any (S : ByteArray) (hS : S.size ≤ 8192) (c : Nat) (g : BTok → Tk.Src → Option (Ox × Tk.Src)) (d : Nat) (hd : d ≤ 12)
    (hg : ∀ b l W, PsAt W c S b l → Calls Tryz.prog 24 #[.pointer (some ⟨c, 0, none⟩), .int .i64 ((d : Int) + 1)] W (ObjPost S c (g b l) W))
    (b0 : BTok) (l0 : Tk.Src) (h0 : b0.kind ≠ 0) (w : World) (h : PsAt w c S b0 l0) :
    Calls Tryz.prog 49 #[.pointer (some ⟨c, 0, none⟩), .int .i64 d] w (ObjPost S c (dictR (dictP g 257 [] [] l0)) w) := by
  have HG := Lib.hid hg
  have hlt := h.lt
  have HP := Lib.hid h
  have HR : Hid (dictP g 257 [] [] l0 = dictP g 257 [] [] l0) := rfl
  generalize hr : dictP g 257 [] [] l0 = r at *
  have HRr := Lib.hid hr
  have HB0 := Lib.hid h0
  clear hg h h0 HR hr
  have hb0 := ((Blk.new w 25 #[.int .i64 0, .int .i64 0, .string ⟨#[]⟩, .slice none 0 0, .slice none 0 0]).alloc (.cells #[.int .i64 7, .int .i64 0, .string ⟨#[]⟩, .slice none 0 0, .slice none 0 0] 25))
  have hb1 := Blk.new (w.alloc (.cells #[.int .i64 0, .int .i64 0, .string ⟨#[]⟩, .slice none 0 0, .slice none 0 0] 25)) 25 #[.int .i64 7, .int .i64 0, .string ⟨#[]⟩, .slice none 0 0, .slice none 0 0]
  rw [show (w.alloc (.cells #[.int .i64 0, .int .i64 0, .string ⟨#[]⟩, .slice none 0 0, .slice none 0 0] 25)).heap.size = w.heap.size + 1 by simp] at hb1
  have HB0w := Lib.hid hb0
  have HB1w := Lib.hid hb1
  have hfr0 : FrP c w ((w.alloc (.cells #[.int .i64 0, .int .i64 0, .string ⟨#[]⟩, .slice none 0 0, .slice none 0 0] 25)).alloc (.cells #[.int .i64 7, .int .i64 0, .string ⟨#[]⟩, .slice none 0 0, .slice none 0 0] 25)) := ((FrS.refl _ _ _).alloc (Nat.le_refl _) _).alloc (by simp) _
  have HFr0 := Lib.hid hfr0
  have HPs0 : Hid (PsAt ((w.alloc (.cells #[.int .i64 0, .int .i64 0, .string ⟨#[]⟩, .slice none 0 0, .slice none 0 0] 25)).alloc (.cells #[.int .i64 7, .int .i64 0, .string ⟨#[]⟩, .slice none 0 0, .slice none 0 0] 25)) c S b0 l0) := HP.out.below (((Below.refl w.heap.size w).alloc (Nat.le_refl _) _).alloc (by simp) _) hlt
  clear hb0 hb1 hfr0
  go_enter Tryz.func49, Tryz.ntmps49
  go_wp2_with fail
  go_loopw [] (fun wq => True ∧ ∃ (ks : List Tk.Src) (acc : List Ox) (vs : List V5) (l : Tk.Src) (b : BTok) (f : Nat) (Ak A : Option Addr) (ck cc : Nat), acc.length ≤ 256 ∧ ks.length = acc.length ∧ f + acc.length = 257 ∧ Sorted ks ∧ dictP g f ks acc l = r ∧ b.kind ≠ 0 ∧ PsAt wq c S b l ∧
    B5 wq (w.heap.size + 1) ⟨.int .i64 7, .int .i64 0, .string ⟨#[]⟩, .slice Ak ks.length ck, .slice A acc.length cc⟩ ∧ B5 wq w.heap.size ⟨.int .i64 0, .int .i64 0, .string ⟨#[]⟩, .slice none 0 0, .slice none 0 0⟩ ∧ TrR wq (w.heap.size + 2) (.slice Ak ks.length ck) (.slice A acc.length cc) ks acc vs ∧ w.heap.size + 2 ≤ wq.heap.size ∧ FrP c w wq)
    (fun wq => 257 - lenOf ((wq.cell? ⟨w.heap.size + 1, 4, none⟩).getD .nilIface))
  case atStart => exact ⟨trivial, [], [], [], l0, b0, 257, none, none, 0, 0, by simp, rfl, rfl, List.Pairwise.nil, HRr.out, HB0.out, HPs0.out, HB1w.out, HB0w.out, TrR.nil _ _, by simp, HFr0.out⟩
  case round =>
    obtain ⟨-, ks, acc, vs, l, b, f, Ak, A, ck, cc, hac, hka, hfl, hst, hrr, hbk, hps, hb1, hb0, htr, hsz, hfr⟩ := hrel
    have hcm := hps.lt
    have hcell := Blk.cell hb1 4
    simp only [List.getElem?_toArray, List.getElem?_cons_zero, List.getElem?_cons_succ] at hcell
    have HMo := Lib.hid (more_any S hS c b l hbk 9 acc.length wr hps)
    have HRr2 := Lib.hid hrr
    have HB1 := Lib.hid hb1
    have HB0 := Lib.hid hb0
    have HTr := Lib.hid htr
    have HFr := Lib.hid hfr
    have HFl := Lib.hid hfl
    have HSt := Lib.hid hst
    have HKa := Lib.hid hka
    have hkl : ks.length ≤ 256 := by omega
    clear hrr hps hb1 hb0 htr hfr hbk hfl hst hka
    go_wp2_with fail
    refine HMo.out.mono ?_
    rintro e w1 ⟨hf1, hq⟩
    have HF1 := Lib.hid hf1
    have hs1 := hf1.size
    have HB11 := Lib.hid (hf1.blk HB1.out HB1.out.lt (by omega))
    have HB01 := Lib.hid (hf1.blk HB0.out HB0.out.lt (by omega))
    have HTr1 := Lib.hid (HTr.out.fr hf1 (Nat.le_refl _) (fun k hk => by omega))
    have HFr1 : Hid (FrP c w w1) := HFr.out.trans (hf1.weak (by omega) fun _ _ h => h)
    generalize hnx : nxP l = nq at *
    have HNx := Lib.hid hnx
    clear hf1 HMo hnx
    obtain ⟨f, rfl⟩ : ∃ k, f = k + 1 := by
      cases f with
      | zero => have := HFl.out; omega
      | succ k => exact ⟨k, rfl⟩
    have HL : Hid (dictP g (f + 1) ks acc l = match nxP l with
      | none => none
      | some (t, r) => if t.kind = 9 then some ((ks, acc), r) else if t.kind = 0 then none else if acc.length = 256 then none
        else if t.kind ≠ 2 then none else if (posK ks t.text).2 then none
        else match nxP r with
        | none => none
        | some (t2, r2) => match g t2 r2 with
          | none => none
          | some (o, r3) => dictP g f (ks.insertIdx (posK ks t.text).1 t.text) (acc.insertIdx (posK ks t.text).1 o) r3) := rfl
    cases nq with
    | none =>
      obtain ⟨x, y, hy, rfl⟩ := hq
      have HRn : Hid (r = none) := by have := HL.out; rw [HNx.out, HRr2.out] at this; exact this
      go_wp2_with fail
      refine ⟨rfl, HFr1.out, ?_⟩
      rw [HRn.out]
      exact ⟨x, y, hy, rfl⟩
    | some tl =>
      obtain ⟨t1, l1⟩ := tl
      dsimp only at hq
      by_cases e7 : t1.kind = 9
      · rw [if_pos e7] at hq
        obtain ⟨rfl, hp1⟩ := hq
        have HRn : Hid (r = some ((ks, acc), l1)) := by have := HL.out; rw [HNx.out, HRr2.out] at this; dsimp only at this; rw [if_pos e7] at this; exact this
        have HP1 := Lib.hid hp1
        have HE7 := Lib.hid e7
        clear hp1 e7
        obtain ⟨x0, x1, x2, x3, x4⟩ := b5_cells HB11.out
        obtain ⟨y0, y1, y2, y3, y4⟩ := b5_cells HB01.out
        have z0 := Blk.frozen HB01.out 0
        have z1 := Blk.frozen HB01.out 1
        have z2 := Blk.frozen HB01.out 2
        have z3 := Blk.frozen HB01.out 3
        have z4 := Blk.frozen HB01.out 4
        have zl := HB01.out.lt
        go_wp2_with fail
        have hbz := b5_put (v := ⟨.int .i64 0, .int .i64 0, .string ⟨#[]⟩, .slice none 0 0, .slice none 0 0⟩) HB01.out ⟨.int .i64 7, .int .i64 0, .string ⟨#[]⟩, .slice Ak ks.length ck, .slice A acc.length cc⟩
        have hfz := b5_frs HFr1.out (Nat.le_refl w.heap.size) ⟨.int .i64 7, .int .i64 0, .string ⟨#[]⟩, .slice Ak ks.length ck, .slice A acc.length cc⟩
        have htz := HTr1.out.shut 7 0 []
        have hfw : FrS w1.heap.size (fun k => k = w.heap.size) w1 w1 := FrS.refl _ _ _
        have hfx := b5_frs' hfw (T := fun k => k = w.heap.size) rfl ⟨.int .i64 7, .int .i64 0, .string ⟨#[]⟩, .slice Ak ks.length ck, .slice A acc.length cc⟩
        refine bodyPost_ret (v := .agg #[.int .i64 7, .int .i64 0, .string ⟨#[]⟩, .slice Ak ks.length ck, .slice A acc.length cc]) ?_ rfl ?_
        · obtain ⟨z0, z1, z2, z3, z4⟩ := b5_cells hbz
          clear hbz hfz hfx
          generalize World.setCell _ _ _ = W at *
          simp [results, Tryz.results49, go_sem, z0, z1, z2, z3, z4]
        · refine ⟨hfz, ?_⟩
          rw [HRn.out]
          refine ⟨⟨_, _, _, _, _⟩, t1, rfl, (htz.keep hfx.size fun k hk hl => hfx.block k hl (by omega)).mono fun k _ hk => by omega, ?_, HP1.out.fr hfx HP1.out.lt (by omega)⟩
          rw [HE7.out]; decide
      · rw [if_neg e7] at hq
        by_cases e0 : t1.kind = 0 ∨ acc.length = 256
        · rw [if_pos e0] at hq
          obtain ⟨x, y, hy, rfl⟩ := hq
          have HRn : Hid (r = none) := by
            have := HL.out; rw [HNx.out, HRr2.out] at this; dsimp only at this; rw [if_neg e7] at this
            by_cases e00 : t1.kind = 0
            · rw [if_pos e00] at this; exact this
            · rw [if_neg e00, if_pos (e0.resolve_left e00)] at this; exact this
          clear e0 e7
          go_wp2_with fail
          refine ⟨rfl, HFr1.out, ?_⟩
          rw [HRn.out]
          exact ⟨x, y, hy, rfl⟩
        · rw [if_neg e0] at hq
          obtain ⟨rfl, hp1⟩ := hq
          have e00 : t1.kind ≠ 0 := fun h => e0 (.inl h)
          have e256 : acc.length ≠ 256 := fun h => e0 (.inr h)
          have HRn : Hid (r = if t1.kind ≠ 2 then none else if (posK ks t1.text).2 then none
              else match nxP l1 with
              | none => none
              | some (t2, r2) => match g t2 r2 with
                | none => none
                | some (o, r3) => dictP g f (ks.insertIdx (posK ks t1.text).1 t1.text) (acc.insertIdx (posK ks t1.text).1 o) r3) := by
            have := HL.out; rw [HNx.out, HRr2.out] at this; dsimp only at this; rw [if_neg e7, if_neg e00, if_neg e256] at this; exact this
          have HP1 := Lib.hid hp1
          have hac2 : acc.length ≤ 255 := by omega
          have HE00 := Lib.hid e00
          obtain ⟨ti, tt, ta, tp, hps1, htv⟩ := hp1
          obtain ⟨hvt, rfl, rfl, q1, rfl, hq1, hq2⟩ := htv e00
          obtain ⟨p0, p1, p2, p3, p4, p5⟩ := ps_cells hps1
          obtain ⟨x0, x1, x2, x3, x4⟩ := b5_cells HB11.out
          have zl := HB11.out.lt
          have hcl1 := Blk.lt hps1
          clear hps1 htv hvt hq2 e0 e7 e00 e256 HL
          go_upto_region 4 with (fail)
          have HK2 := Lib.hid (Blk.new w1 53 #[.int .i64 t1.kind, .int .i64 t1.int, .string ⟨t1.text.toArray⟩, .int .i64 ta, .int .i64 q1])
          have hfa : FrS w1.heap.size (fun _ => False) w1 (w1.alloc (.cells #[.int .i64 t1.kind, .int .i64 t1.int, .string ⟨t1.text.toArray⟩, .int .i64 ta, .int .i64 q1] 53)) := (FrS.refl _ _ _).alloc (Nat.le_refl _) _
          have HFa := Lib.hid hfa
          have hsa : w1.heap.size < (w1.alloc (.cells #[.int .i64 t1.kind, .int .i64 t1.int, .string ⟨t1.text.toArray⟩, .int .i64 ta, .int .i64 q1] 53)).heap.size := by simp
          clear hfa p0 p1 p2 p3 p4 p5 x0 x1 x2 x3 x4
          generalize w1.alloc (.cells #[.int .i64 t1.kind, .int .i64 t1.int, .string ⟨t1.text.toArray⟩, .int .i64 ta, .int .i64 q1] 53) = w2 at *
          have HB12 := Lib.hid (HFa.out.blk HB11.out zl (fun h => h))
          have HB02 := Lib.hid (HFa.out.blk HB01.out (by omega) (fun h => h))
          have HTr2 := Lib.hid (HTr1.out.fr HFa.out (Nat.le_refl _) (fun k hk => hk.elim))
          have HP2 := Lib.hid (HP1.out.fr HFa.out hcl1 (fun h => h))
          have HFr2 : Hid (FrP c w w2) := HFr1.out.trans (HFa.out.weak (by omega) fun _ _ h => h.elim)
          have HBs := Lib.hid (bs_any ks t1.text (.slice Ak ks.length ck) _ w2 (Sl.of_own (by simpa [strs] using HTr2.out.ok)) (by omega) HSt.out)
          obtain ⟨x0, x1, x2, x3, x4⟩ := b5_cells (v := ⟨.int .i64 7, .int .i64 0, .string ⟨#[]⟩, .slice Ak ks.length ck, .slice A acc.length cc⟩) HB12.out
          obtain ⟨k0, k1, k2, k3, k4⟩ := tok_cells HK2.out
          have hpl := pos_le ks t1.text
          obtain ⟨fd, hfd⟩ : ∃ fd, fd = (posK ks t1.text).2 := ⟨_, rfl⟩
          obtain ⟨i, hi⟩ : ∃ i, i = (posK ks t1.text).1 := ⟨_, rfl⟩
          rw [← hfd, ← hi] at HBs HRn
          rw [← hi] at hpl
          have HFd := Lib.hid hfd
          have HI := Lib.hid hi
          obtain ⟨T1, hT1⟩ : ∃ T1 : ByteArray, T1 = ⟨t1.text.toArray⟩ := ⟨_, rfl⟩
          rw [← hT1] at k2 HBs HK2
          have HT1 := Lib.hid hT1
          obtain ⟨tk, htk⟩ : ∃ tk, tk = t1.kind := ⟨_, rfl⟩
          rw [← htk] at k0 HRn HK2
          have HTk := Lib.hid htk
          clear hfd hi hT1 htk
          go_wp2_with fail
          refine HBs.out.mono ?_
          rintro e w3 ⟨rfl, hsm⟩
          have hf3 : FrS w2.heap.size (fun _ => False) w2 w3 := (hsm.below w2.heap.size) |> fun h => ⟨h.os, h.tape, h.output, h.size, fun k hk _ => h.block k hk⟩
          have hs3 : w2.heap.size ≤ w3.heap.size := hf3.size
          have HK3 := Lib.hid (hf3.blk HK2.out HK2.out.lt (fun h => h))
          have HB13 := Lib.hid (hf3.blk HB12.out HB12.out.lt (fun h => h))
          have HB03 := Lib.hid (hf3.blk HB02.out HB02.out.lt (fun h => h))
          have HTr3 := Lib.hid (HTr2.out.fr hf3 (Nat.le_refl _) (fun k hk => hk.elim))
          have HP3 := Lib.hid (HP2.out.fr hf3 HP2.out.lt (fun h => h))
          have HFr3 : Hid (FrP c w w3) := HFr2.out.trans (hf3.weak (by omega) fun _ _ h => h.elim)
          clear hf3 hsm HBs x0 x1 x2 x3 x4 k0 k1 k2 k3 k4
          obtain ⟨x0, x1, x2, x3, x4⟩ := b5_cells (v := ⟨.int .i64 7, .int .i64 0, .string ⟨#[]⟩, .slice Ak ks.length ck, .slice A acc.length cc⟩) HB13.out
          obtain ⟨k0, k1, k2, k3, k4⟩ := tok_cells HK3.out
          by_cases e2 : tk ≠ 2
          · have q2 : (tk != 2) = true := by simpa using e2
            have HRn2 : Hid (r = none) := by have := HRn.out; rw [if_pos e2] at this; exact this
            clear e2
            go_wp2_with (go_at_call 25; refine (fail_any _ _ _).mono ?_; rintro e w4 ⟨rfl, rfl⟩)
            refine ⟨rfl, HFr3.out, ?_⟩
            rw [HRn2.out]
            exact ⟨_, _, by decide, rfl⟩
          · have q2 : (tk != 2) = false := by simpa using e2
            have HRn2 := HRn.out
            rw [if_neg e2] at HRn2
            have HTk2 : Hid (tk = 2) := Classical.byContradiction e2
            clear e2
            cases fd with
            | true =>
              have HRn3 : Hid (r = none) := HRn2
              clear HRn2
              go_wp2_with (go_at_call 25; refine (fail_any _ _ _).mono ?_; rintro e w4 ⟨rfl, rfl⟩)
              refine ⟨rfl, HFr3.out, ?_⟩
              rw [HRn3.out]
              exact ⟨_, _, by decide, rfl⟩
            | false =>
              have HRn3 : Hid (r = match nxP l1 with
                | none => none
                | some (t2, r2) => match g t2 r2 with
                  | none => none
                  | some (o, r3) => dictP g f (ks.insertIdx i t1.text) (acc.insertIdx i o) r3) := HRn2
              clear HRn2
              have HAd := Lib.hid (advance_at S hS c t1 l1 HE00.out w3 HP3.out)
              go_wp2_with fail
              refine HAd.out.mono ?_
              rintro e w4 ⟨hf4, hq4⟩
              have hs4 := hf4.size
              have HF4 := Lib.hid hf4
              have HK4 := Lib.hid (hf4.blk HK3.out HK3.out.lt (by omega))
              have HB14 := Lib.hid (hf4.blk HB13.out HB13.out.lt (by omega))
              have HB04 := Lib.hid (hf4.blk HB03.out HB03.out.lt (by omega))
              have HTr4 := Lib.hid (HTr3.out.fr hf4 (Nat.le_refl _) (fun k hk => by omega))
              have HFr4 : Hid (FrP c w w4) := HFr3.out.trans (hf4.weak (by omega) fun _ _ h => h)
              generalize hn2 : nxP l1 = n2 at *
              clear hf4 hn2 HAd x0 x1 x2 x3 x4 k0 k1 k2 k3 k4
              cases n2 with
              | none =>
                obtain ⟨x, y, hy, rfl⟩ := hq4
                go_wp2_with fail
                refine ⟨rfl, HFr4.out, ?_⟩
                rw [HRn3.out]
                exact ⟨x, y, hy, rfl⟩
              | some tl2 =>
                obtain ⟨t2, l2⟩ := tl2
                obtain ⟨rfl, hp4⟩ := hq4
                have HRn4 : Hid (r = match g t2 l2 with
                  | none => none
                  | some (o, r3) => dictP g f (ks.insertIdx i t1.text) (acc.insertIdx i o) r3) := HRn3.out
                have HGo := Lib.hid (HG.out t2 l2 w4 hp4)
                have hdi : IntKind.i64.wrap ((d : Int) + 1) = (d : Int) + 1 := IntWalk.i64_in _ (by omega)
                clear hp4 HRn3
                go_wp2_with fail
                refine HGo.out.mono ?_
                rintro e w5 ⟨hf5, hq5⟩
                have hs5 := hf5.size
                have HF5 := Lib.hid hf5
                have HK5 := Lib.hid (hf5.blk HK4.out HK4.out.lt (by omega))
                have HB15 := Lib.hid (hf5.blk HB14.out HB14.out.lt (by omega))
                have HB05 := Lib.hid (hf5.blk HB04.out HB04.out.lt (by omega))
                have HTr5 := Lib.hid (HTr4.out.fr hf5 (Nat.le_refl _) (fun k hk => by omega))
                have HFr5 : Hid (FrP c w w5) := HFr4.out.trans (hf5.weak (by omega) fun _ _ h => h)
                generalize hg2 : g t2 l2 = go at *
                clear hf5 hg2 HGo
                cases go with
                | none =>
                  obtain ⟨x, y, hy, rfl⟩ := hq5
                  go_wp2_with fail
                  refine ⟨rfl, HFr5.out, ?_⟩
                  rw [HRn4.out]
                  exact ⟨x, y, hy, rfl⟩
                | some ol =>
                  obtain ⟨o, l3⟩ := ol
                  obtain ⟨u, b2, rfl, hob, hb2, hps2⟩ := hq5
                  obtain ⟨uk, ui, ut, uks, uos⟩ := u
                  have HRn5 : Hid (r = dictP g f (ks.insertIdx i t1.text) (acc.insertIdx i o) l3) := HRn4.out
                  have HOc := Lib.hid (ObjV.one hob)
                  have HOb := Lib.hid hob
                  have HB2 := Lib.hid hb2
                  have HPs2 := Lib.hid hps2
                  obtain ⟨kv, dv, us, hu, hsl, hsm, -, -⟩ := hob.open_
                  injection hu with h1 h2 h3 h4 h5
                  subst h1 h2 h3 h4 h5
                  obtain ⟨Ako, cko, rfl⟩ := hsl.form
                  obtain ⟨Ado, cdo, rfl⟩ := hsm.form
                  unfold V5.val
                  generalize hsl1 : (strs o.keys).length = n1 at *
                  generalize hsl2 : o.kids.length = n2 at *
                  generalize hk1 : o.kind = k1 at *
                  generalize hi1 : o.int = i1 at *
                  generalize ht1 : (⟨o.text.toArray⟩ : ByteArray) = T2 at *
                  clear hob hb2 hps2 hsl hsm hsl1 hsl2 hk1 hi1 ht1 HRn4
                  go_upto_region 11 with (fail)
                  have HU6 := Lib.hid (Blk.new w5 25 #[.int .i64 k1, .int .i64 i1, .string T2, .slice Ako n1 cko, .slice Ado n2 cdo])
                  have hfa : FrS w5.heap.size (fun _ => False) w5 (w5.alloc (.cells #[.int .i64 k1, .int .i64 i1, .string T2, .slice Ako n1 cko, .slice Ado n2 cdo] 25)) := (FrS.refl _ _ _).alloc (Nat.le_refl _) _
                  have HF6 := Lib.hid hfa
                  have hs6 : w5.heap.size < (w5.alloc (.cells #[.int .i64 k1, .int .i64 i1, .string T2, .slice Ako n1 cko, .slice Ado n2 cdo] 25)).heap.size := by simp
                  clear hfa
                  generalize w5.alloc (.cells #[.int .i64 k1, .int .i64 i1, .string T2, .slice Ako n1 cko, .slice Ado n2 cdo] 25) = w6 at *
                  obtain ⟨x0, x1, x2, x3, x4⟩ := b5_cells (v := ⟨.int .i64 7, .int .i64 0, .string ⟨#[]⟩, .slice Ak ks.length ck, .slice A acc.length cc⟩) (HF6.out.blk HB15.out HB15.out.lt (fun h => h))
                  obtain ⟨k0, k1', k2, k3, k4⟩ := tok_cells (HF6.out.blk HK5.out HK5.out.lt (fun h => h))
                  go_wp2_with fail
                  have HTr6 := Lib.hid (HTr5.out.fr HF6.out (Nat.le_refl _) (fun k hk => hk.elim))
                  have HB16 := Lib.hid (HF6.out.blk HB15.out HB15.out.lt (fun h => h))
                  have hfb : FrS w6.heap.size (fun _ => False) w6 (w6.alloc (.cells #[.string T1] 9)) := (FrS.refl _ _ _).alloc (Nat.le_refl _) _
                  have HF7 := Lib.hid hfb
                  have hs7 : w6.heap.size < (w6.alloc (.cells #[.string T1] 9)).heap.size := by simp
                  have HX7 := Lib.hid (Blk.new w6 9 #[.string T1])
                  clear hfb x0 x1 x2 x3 x4 k0 k1' k2 k3 k4
                  generalize w6.alloc (.cells #[.string T1] 9) = w7 at *
                  have HTr7 := Lib.hid (HTr6.out.fr HF7.out (Nat.le_refl _) (fun k hk => hk.elim))
                  have HKo : Hid (∀ k, (Value.slice Ak ks.length ck).ownBlock = some k → w.heap.size + 2 ≤ k ∧ k < w4.heap.size) := fun k hk => own_lt HTr4.out.ok k hk
                  have HDo : Hid (∀ k, (Value.slice A acc.length cc).ownBlock = some k → w.heap.size + 2 ≤ k ∧ k < w4.heap.size) := fun k hk => own_lt HTr4.out.od k hk
                  refine (insAnyS (w.heap.size + 2) ks.length i w6.heap.size 1 (.slice Ak ks.length ck) (strs ks) [.string T1] w7 HTr7.out.ok hpl (by omega) (by omega) HX7.out (fun e => by have := HKo.out _ e; omega) rfl (strs_one ks) (by intro v hv; simp at hv; subst hv; rfl)).mono ?_
                  rintro e w8 ⟨kv', rfl, hown8, hf8, hv8⟩
                  have hs8 := hf8.size
                  obtain ⟨Ak8, ck8, rfl⟩ := own_form hown8
                  have hB18 := hf8.blk (HF7.out.blk HB16.out HB16.out.lt (fun h => h)) (by omega) (fun e => by have := HKo.out _ e; omega)
                  have HB18 := Lib.hid hB18
                  have HV8 := Lib.hid hv8
                  have HF8 := Lib.hid hf8
                  have HTr8 := Lib.hid (HTr7.out.insK (x := t1.text) hpl (by rw [← HT1.out]; exact hown8) hf8 hv8)
                  obtain ⟨x0, x1, x2, x3, x4⟩ := b5_cells (v := ⟨.int .i64 7, .int .i64 0, .string ⟨#[]⟩, .slice Ak ks.length ck, .slice A acc.length cc⟩)  hB18
                  have zf := Blk.frozen hB18 3
                  have zf4 := Blk.frozen hB18 4
                  have zl8 : w.heap.size + 1 < w8.heap.size := by omega
                  clear hown8 hf8 hv8 hB18
                  go_upto_region 12 with (fail)
                  have hb19 : B5 (w8.setCell ⟨w.heap.size + 1, 3, none⟩ (.slice Ak8 (ks.length + 1) ck8)) (w.heap.size + 1) ⟨.int .i64 7, .int .i64 0, .string ⟨#[]⟩, .slice Ak8 (ks.length + 1) ck8, .slice A acc.length cc⟩ := by
                    have := Blk.put HB18.out 3 (.slice Ak8 (ks.length + 1) ck8)
                    simpa [B5] using this
                  have hf9 : FrS w8.heap.size (fun k => k = w.heap.size + 1) w8 (w8.setCell ⟨w.heap.size + 1, 3, none⟩ (.slice Ak8 (ks.length + 1) ck8)) := FrS.put (p := ⟨w.heap.size + 1, 3, none⟩) (FrS.refl w8.heap.size (fun k => k = w.heap.size + 1) w8) (.inr rfl) _
                  have HB19 := Lib.hid hb19
                  have HF9 := Lib.hid hf9
                  have hs9 : w8.heap.size ≤ (w8.setCell ⟨w.heap.size + 1, 3, none⟩ (.slice Ak8 (ks.length + 1) ck8)).heap.size := hf9.size
                  clear hb19 hf9 x0 x1 x2 x3 x4 zf zf4
                  generalize w8.setCell ⟨w.heap.size + 1, 3, none⟩ (.slice Ak8 (ks.length + 1) ck8) = w9 at *
                  have HTr9 := Lib.hid (HTr8.out.fr HF9.out (Nat.le_refl _) (fun k hk => by omega))
                  have hf59 : FrS w5.heap.size (fun k => (Value.slice Ak ks.length ck).ownBlock = some k ∨ k = w.heap.size + 1) w5 w9 :=
                    (((HF6.out.weak (Nat.le_refl _) fun _ _ h => h.elim).trans (HF7.out.weak (by omega) fun _ _ h => h.elim)).trans (HF8.out.weak (by omega) fun _ _ h => .inl h)).trans (HF9.out.weak (by omega) fun _ _ h => .inr h)
                  have HF59 := Lib.hid hf59
                  have hu9 := HF9.out.blk (HF8.out.blk (HF7.out.blk HU6.out HU6.out.lt (fun h => h)) (by have := HU6.out.lt; omega) (fun e => by have := HKo.out _ e; omega)) (by have := HU6.out.lt; omega) (by omega)
                  have hob9 : ObjV (PT (w.heap.size + 2) (.slice Ak8 (ks.length + 1) ck8) (.slice A acc.length cc)) w9 ⟨.int .i64 k1, .int .i64 i1, .string T2, .slice Ako n1 cko, .slice Ado n2 cdo⟩ o := by
                    have a1 := (show ObjV (fun k => w4.heap.size ≤ k) w5 ⟨.int .i64 k1, .int .i64 i1, .string T2, .slice Ako n1 cko, .slice Ado n2 cdo⟩ o from HOb.out).mono (Q := fun k => w4.heap.size ≤ k ∧ k < w5.heap.size) fun k hk hp => ⟨hp, hk⟩
                    have a2 := a1.keep (w' := w9) hf59.size fun k hk hl => hf59.block k hl fun e => by
                      rcases e with e | e
                      · have := HKo.out _ e; omega
                      · omega
                    refine a2.mono fun k _ hk => ⟨by omega, fun e => ?_, fun e => by have := HDo.out _ e; omega⟩
                    rcases HV8.out with hv | ⟨m, hv, hm⟩
                    · rw [hv] at e; have := HKo.out _ e; omega
                    · rw [hv] at e; cases e; omega
                  have HOb9 := Lib.hid hob9
                  have HU9 := Lib.hid hu9
                  obtain ⟨y0, y1, y2, y3, y4⟩ := b5_cells (v := ⟨.int .i64 k1, .int .i64 i1, .string T2, .slice Ako n1 cko, .slice Ado n2 cdo⟩) hu9
                  obtain ⟨x0, x1, x2, x3, x4⟩ := b5_cells HB19.out
                  clear hf59 hu9 hob9
                  go_wp2_with fail
                  have hfb : FrS w9.heap.size (fun _ => False) w9 (w9.alloc (.cells #[.int .i64 k1, .int .i64 i1, .string T2, .slice Ako n1 cko, .slice Ado n2 cdo] 25)) := (FrS.refl _ _ _).alloc (Nat.le_refl _) _
                  have HF10 := Lib.hid hfb
                  have hs10 : w9.heap.size < (w9.alloc (.cells #[.int .i64 k1, .int .i64 i1, .string T2, .slice Ako n1 cko, .slice Ado n2 cdo] 25)).heap.size := by simp
                  have HX10 := Lib.hid (Blk.new w9 25 #[.int .i64 k1, .int .i64 i1, .string T2, .slice Ako n1 cko, .slice Ado n2 cdo])
                  clear hfb x0 x1 x2 x3 x4 y0 y1 y2 y3 y4
                  generalize w9.alloc (.cells #[.int .i64 k1, .int .i64 i1, .string T2, .slice Ako n1 cko, .slice Ado n2 cdo] 25) = w10 at *
                  have HTr10 := Lib.hid (HTr9.out.fr HF10.out (Nat.le_refl _) (fun k hk => hk.elim))
                  have HOb10 := Lib.hid (HOb9.out.keep HF10.out.size fun k _ hl => HF10.out.block k hl (fun h => h))
                  have hia : i ≤ acc.length := by have := HKa.out; omega
                  refine (insAnyO (w.heap.size + 2) acc.length i w9.heap.size 1 (.slice A acc.length cc) (v5cs vs) [.int .i64 k1, .int .i64 i1, .string T2, .slice Ako n1 cko, .slice Ado n2 cdo] w10 HTr10.out.od hia (by omega) (by omega) HX10.out (fun e => by have := HDo.out _ e; omega) rfl HTr10.out.oneO HOc.out).mono ?_
                  rintro e w11 ⟨dv', rfl, hown11, hf11, hv11⟩
                  have hs11 := hf11.size
                  obtain ⟨A11, c11, rfl⟩ := own_form hown11
                  have hB11' := hf11.blk (HF10.out.blk HB19.out HB19.out.lt (fun h => h)) (by omega) (fun e => by have := HDo.out _ e; omega)
                  have HB111 := Lib.hid hB11'
                  have HF11 := Lib.hid hf11
                  have HTr11 := Lib.hid (HTr10.out.insO hia HOb10.out hown11 hf11 hv11)
                  obtain ⟨x0, x1, x2, x3, x4⟩ := b5_cells (v := ⟨.int .i64 7, .int .i64 0, .string ⟨#[]⟩, .slice Ak8 (ks.length + 1) ck8, .slice A acc.length cc⟩) hB11'
                  have zf4 := Blk.frozen hB11' 4
                  have zl11 : w.heap.size + 1 < w11.heap.size := by omega
                  clear hown11 hf11 hv11 hB11'
                  go_wp2_with fail
                  have hlk : (ks.insertIdx i t1.text).length = ks.length + 1 := ins_len _ _ _ hpl
                  have hlo : (acc.insertIdx i o).length = acc.length + 1 := ins_len _ _ _ hia
                  have hf12 : FrS w11.heap.size (fun k => k = w.heap.size + 1) w11 (w11.setCell ⟨w.heap.size + 1, 4, none⟩ (.slice A11 (acc.length + 1) c11)) := FrS.put (p := ⟨w.heap.size + 1, 4, none⟩) (FrS.refl w11.heap.size (fun k => k = w.heap.size + 1) w11) (.inr rfl) _
                  have hf5c : FrS w5.heap.size (fun k => w.heap.size + 1 ≤ k) w5 (w11.setCell ⟨w.heap.size + 1, 4, none⟩ (.slice A11 (acc.length + 1) c11)) :=
                    (((HF59.out.weak (Nat.le_refl _) fun k _ h => by
                      rcases h with h | h
                      · have := HKo.out _ h; omega
                      · omega).trans (HF10.out.weak (by omega) fun _ _ h => h.elim)).trans (HF11.out.weak (by omega) fun k _ h => by have := HDo.out _ h; omega)).trans (hf12.weak (by omega) fun k _ h => by omega)
                  have hs12 := hf12.size
                  refine ⟨⟨trivial, ks.insertIdx i t1.text, acc.insertIdx i o, vs.insertIdx i ⟨.int .i64 k1, .int .i64 i1, .string T2, .slice Ako n1 cko, .slice Ado n2 cdo⟩, l3, b2, f, Ak8, A11, ck8, c11, by omega, by have := HKa.out; omega, by have := HFl.out; omega, ?_, HRn5.out.symm, HB2.out, ?_, ?_, ?_, ?_, by omega, ?_⟩, ?_⟩
                  · have := sorted_ins ks t1.text HSt.out HFd.out.symm
                    rwa [← HI.out] at this
                  · exact HPs2.out.fr hf5c (by omega) (by omega)
                  · rw [hlk, hlo]
                    have := Blk.put HB111.out 4 (.slice A11 (acc.length + 1) c11)
                    simpa [B5] using this
                  · exact hf5c.blk HB05.out HB05.out.lt (by omega)
                  · rw [hlk, hlo]
                    exact HTr11.out.fr hf12 (Nat.le_refl _) (fun k hk => by omega)
                  · exact HFr5.out.trans (hf5c.weak (by omega) fun k h1 h2 => by omega)
                  · have hz := Blk.cell (Blk.put HB111.out 4 (.slice A11 (acc.length + 1) c11)) 4
                    simp at hz
                    rw [hz, hcell]
                    simp [lenOf]; omega
end Go.Proofs.YthbdhijkdldmoaaGreatDoor
namespace Go.Proofs.YthbdhijkdldmoaaGreatDoor
open Go.RowKit Tk Ob
def LeafPost (b : BTok) (w : World) (e : Ending) (w' : World) : Prop :=
  Below w.heap.size w w' ∧ match leafP b with
    | none => PanE e
    | some o => ∃ v : V5, e = .returned v.val ∧ ObjV (fun k => w.heap.size ≤ k) w' v o
theorem leaf_close {b : BTok} {w w' : World} {k i : Int} {t : Tk.Src} {e : Ending} (h : leafP b = some (.mk k i t [] [])) (he : e = .returned (.agg #[.int .i64 k, .int .i64 i, .string ⟨t.toArray⟩, .slice none 0 0, .slice none 0 0])) (hb : Below w.heap.size w w') : LeafPost b w e w' := by
  refine ⟨hb, ?_⟩
  rw [h]
  exact ⟨⟨_, _, _, _, _⟩, he, ObjV.leaf _ _ k i t⟩
theorem leaf_below (w : World) (a b : Obj) : Below w.heap.size w ((w.alloc a).alloc b) := ((Below.refl _ _).alloc (Nat.le_refl _) _).alloc (by simp) _
set_option maxRecDepth 100000 in
set_option maxHeartbeats 4000000 in
theorem leaf_null (S : ByteArray) (c : Nat) (a p : Int) (w : World) (h : Ps w c S 5 0 ⟨#[110, 117, 108, 108]⟩ a p) :
    Calls Tryz.prog 50 #[.pointer (some ⟨c, 0, none⟩)] w (LeafPost ⟨5, 0, [110, 117, 108, 108]⟩ w) := by
  obtain ⟨c0, c1, c2, c3, c4, c5⟩ := ps_cells h
  have hlt := Blk.lt h
  have HE : Hid (leafP ⟨5, 0, [110, 117, 108, 108]⟩ = some (.mk 0 0 [] [] [])) := rfl
  clear h
  go_enter Tryz.func50, Tryz.ntmps50
  go_wp2_with fail
  refine bodyPost_ret (v := .agg #[.int .i64 0, .int .i64 0, .string ⟨#[]⟩, .slice none 0 0, .slice none 0 0]) (by simp [results, Tryz.results50, go_sem]) rfl ?_
  exact leaf_close HE.out rfl (leaf_below _ _ _)
set_option maxRecDepth 100000 in
set_option maxHeartbeats 4000000 in
theorem leaf_true (S : ByteArray) (c : Nat) (a p : Int) (w : World) (h : Ps w c S 5 0 ⟨#[116, 114, 117, 101]⟩ a p) :
    Calls Tryz.prog 50 #[.pointer (some ⟨c, 0, none⟩)] w (LeafPost ⟨5, 0, [116, 114, 117, 101]⟩ w) := by
  obtain ⟨c0, c1, c2, c3, c4, c5⟩ := ps_cells h
  have hlt := Blk.lt h
  have HE : Hid (leafP ⟨5, 0, [116, 114, 117, 101]⟩ = some (.mk 1 1 [] [] [])) := rfl
  clear h
  go_enter Tryz.func50, Tryz.ntmps50
  go_wp2_with fail
  refine bodyPost_ret (v := .agg #[.int .i64 1, .int .i64 1, .string ⟨#[]⟩, .slice none 0 0, .slice none 0 0]) (by simp [results, Tryz.results50, go_sem]) rfl ?_
  exact leaf_close HE.out rfl (leaf_below _ _ _)
set_option maxRecDepth 100000 in
set_option maxHeartbeats 4000000 in
theorem leaf_false (S : ByteArray) (c : Nat) (a p : Int) (w : World) (h : Ps w c S 5 0 ⟨#[102, 97, 108, 115, 101]⟩ a p) :
    Calls Tryz.prog 50 #[.pointer (some ⟨c, 0, none⟩)] w (LeafPost ⟨5, 0, [102, 97, 108, 115, 101]⟩ w) := by
  obtain ⟨c0, c1, c2, c3, c4, c5⟩ := ps_cells h
  have hlt := Blk.lt h
  have HE : Hid (leafP ⟨5, 0, [102, 97, 108, 115, 101]⟩ = some (.mk 1 0 [] [] [])) := rfl
  clear h
  go_enter Tryz.func50, Tryz.ntmps50
  go_wp2_with fail
  refine bodyPost_ret (v := .agg #[.int .i64 1, .int .i64 0, .string ⟨#[]⟩, .slice none 0 0, .slice none 0 0]) (by simp [results, Tryz.results50, go_sem]) rfl ?_
  exact leaf_close HE.out rfl (leaf_below _ _ _)
set_option maxRecDepth 100000 in
set_option maxHeartbeats 4000000 in
theorem leaf_int (S : ByteArray) (c : Nat) (n : Int) (a p : Int) (w : World) (h : Ps w c S 1 n ⟨#[]⟩ a p) :
    Calls Tryz.prog 50 #[.pointer (some ⟨c, 0, none⟩)] w (LeafPost ⟨1, n, []⟩ w) := by
  obtain ⟨c0, c1, c2, c3, c4, c5⟩ := ps_cells h
  have hlt := Blk.lt h
  have HE : Hid (leafP ⟨1, n, []⟩ = some (.mk 2 n [] [] [])) := rfl
  clear h
  go_enter Tryz.func50, Tryz.ntmps50
  go_wp2_with fail
  refine bodyPost_ret (v := .agg #[.int .i64 2, .int .i64 n, .string ⟨#[]⟩, .slice none 0 0, .slice none 0 0]) (by simp [results, Tryz.results50, go_sem]) rfl ?_
  exact leaf_close HE.out rfl (leaf_below _ _ _)
set_option maxRecDepth 100000 in
set_option maxHeartbeats 4000000 in
theorem leaf_name (S : ByteArray) (c : Nat) (T : Tk.Src) (a p : Int) (w : World) (h : Ps w c S 2 0 ⟨T.toArray⟩ a p) :
    Calls Tryz.prog 50 #[.pointer (some ⟨c, 0, none⟩)] w (LeafPost ⟨2, 0, T⟩ w) := by
  obtain ⟨c0, c1, c2, c3, c4, c5⟩ := ps_cells h
  have hlt := Blk.lt h
  have HE : Hid (leafP ⟨2, 0, T⟩ = some (.mk 3 0 T [] [])) := rfl
  clear h
  go_enter Tryz.func50, Tryz.ntmps50
  go_wp2_with fail
  refine bodyPost_ret (v := .agg #[.int .i64 3, .int .i64 0, .string ⟨T.toArray⟩, .slice none 0 0, .slice none 0 0]) (by simp [results, Tryz.results50, go_sem]) rfl ?_
  exact leaf_close HE.out rfl (leaf_below _ _ _)
set_option maxRecDepth 100000 in
set_option maxHeartbeats 4000000 in
theorem leaf_text (S : ByteArray) (c : Nat) (T : Tk.Src) (a p : Int) (w : World) (h : Ps w c S 3 0 ⟨T.toArray⟩ a p) :
    Calls Tryz.prog 50 #[.pointer (some ⟨c, 0, none⟩)] w (LeafPost ⟨3, 0, T⟩ w) := by
  obtain ⟨c0, c1, c2, c3, c4, c5⟩ := ps_cells h
  have hlt := Blk.lt h
  have HE : Hid (leafP ⟨3, 0, T⟩ = some (.mk 4 0 T [] [])) := rfl
  clear h
  go_enter Tryz.func50, Tryz.ntmps50
  go_wp2_with fail
  refine bodyPost_ret (v := .agg #[.int .i64 4, .int .i64 0, .string ⟨T.toArray⟩, .slice none 0 0, .slice none 0 0]) (by simp [results, Tryz.results50, go_sem]) rfl ?_
  exact leaf_close HE.out rfl (leaf_below _ _ _)
set_option maxRecDepth 100000 in
set_option maxHeartbeats 4000000 in
theorem leaf_ref (S : ByteArray) (c : Nat) (n : Int) (a p : Int) (w : World) (h : Ps w c S 4 n ⟨#[]⟩ a p) :
    Calls Tryz.prog 50 #[.pointer (some ⟨c, 0, none⟩)] w (LeafPost ⟨4, n, []⟩ w) := by
  obtain ⟨c0, c1, c2, c3, c4, c5⟩ := ps_cells h
  have hlt := Blk.lt h
  have HE : Hid (leafP ⟨4, n, []⟩ = some (.mk 5 n [] [] [])) := rfl
  clear h
  go_enter Tryz.func50, Tryz.ntmps50
  go_wp2_with fail
  refine bodyPost_ret (v := .agg #[.int .i64 5, .int .i64 n, .string ⟨#[]⟩, .slice none 0 0, .slice none 0 0]) (by simp [results, Tryz.results50, go_sem]) rfl ?_
  exact leaf_close HE.out rfl (leaf_below _ _ _)
theorem word_ne {T L : Tk.Src} (h : T ≠ L) (V : ByteArray) (hV : V = ⟨T.toArray⟩) : (V.toList == L) = false := by
  rw [Lib.toList_data, hV]
  simpa using h
set_option maxRecDepth 100000 in
set_option maxHeartbeats 4000000 in
theorem leaf_word (S : ByteArray) (c : Nat) (T : Tk.Src) (a p : Int) (w : World) (h : Ps w c S 5 0 ⟨T.toArray⟩ a p) :
    Calls Tryz.prog 50 #[.pointer (some ⟨c, 0, none⟩)] w (LeafPost ⟨5, 0, T⟩ w) := by
  by_cases hn : T = [110, 117, 108, 108]
  · subst hn; exact leaf_null S c a p w h
  by_cases ht : T = [116, 114, 117, 101]
  · subst ht; exact leaf_true S c a p w h
  by_cases hf : T = [102, 97, 108, 115, 101]
  · subst hf; exact leaf_false S c a p w h
  obtain ⟨c0, c1, c2, c3, c4, c5⟩ := ps_cells h
  have hlt := Blk.lt h
  have HE : Hid (leafP ⟨5, 0, T⟩ = none) := by
    show (if T = [110, 117, 108, 108] then some (Ox.mk 0 0 [] [] []) else if T = [116, 114, 117, 101] then some (Ox.mk 1 1 [] [] []) else if T = [102, 97, 108, 115, 101] then some (Ox.mk 1 0 [] [] []) else none) = none
    rw [if_neg hn, if_neg ht, if_neg hf]
  obtain ⟨V, hV⟩ : ∃ V : ByteArray, V = ⟨T.toArray⟩ := ⟨_, rfl⟩
  rw [← hV] at c3
  have q1 := word_ne hn V hV
  have q2 := word_ne ht V hV
  have q3 := word_ne hf V hV
  clear hn ht hf hV h
  go_enter Tryz.func50, Tryz.ntmps50
  go_wp2_with (go_at_call 25; refine (fail_any _ _ _).mono ?_; rintro e w4 ⟨rfl, rfl⟩)
  refine ⟨rfl, leaf_below _ _ _, ?_⟩
  rw [HE.out]
  exact ⟨_, _, by decide, rfl⟩
theorem leaf_any (S : ByteArray) (c : Nat) (b : BTok) (l : Tk.Src) (w : World) (hk : b.kind < 6) (h0 : b.kind ≠ 0) (h : PsAt w c S b l) :
    Calls Tryz.prog 50 #[.pointer (some ⟨c, 0, none⟩)] w (LeafPost b w) := by
  obtain ⟨i, t, a, p, h1, h2⟩ := h
  obtain ⟨hv, rfl, rfl, _⟩ := h2 h0
  cases hv with
  | int n _ _ => exact leaf_int S c n a p w h1
  | name s _ _ _ => exact leaf_name S c s a p w h1
  | text s _ => exact leaf_text S c s a p w h1
  | ref n _ _ => exact leaf_ref S c n a p w h1
  | word s _ => exact leaf_word S c s a p w h1
  | list => exact absurd hk (by decide)
  | listEnd => exact absurd hk (by decide)
  | dict => exact absurd hk (by decide)
  | dictEnd => exact absurd hk (by decide)
end Go.Proofs.YthbdhijkdldmoaaGreatDoor
namespace Go.Proofs.YthbdhijkdldmoaaGreatDoor
open Go.RowKit Tk Ob
theorem objP_succ (f : Nat) (t : BTok) (l : Tk.Src) (h0 : t.kind ≠ 0) (h7 : t.kind ≠ 7) (h9 : t.kind ≠ 9) : objP (f + 1) t l = if t.kind = 6 then listR (listP (objP f) 257 [] l) else if t.kind = 8 then dictR (dictP (objP f) 257 [] [] l) else (match leafP t with | none => none | some o => some (o, l)) := by
  simp only [objP]
  rw [if_neg (by omega)]
  split
  · cases listP (objP f) 257 [] l <;> rfl
  · split
    · cases dictP (objP f) 257 [] [] l <;> rfl
    · rfl
set_option maxRecDepth 100000 in
set_option maxHeartbeats 16000000 in
theorem obj_step (S : ByteArray) (hS : S.size ≤ 8192) (c : Nat) (f d : Nat) (hfd : f + d = 13) (hd : 1 ≤ d)
    (hg : ∀ b l W, 1 ≤ f → PsAt W c S b l → Calls Tryz.prog 24 #[.pointer (some ⟨c, 0, none⟩), .int .i64 ((d : Int) + 1)] W (ObjPost S c (objP (f - 1) b l) W))
    (b : BTok) (l : Tk.Src) (w : World) (h : PsAt w c S b l) :
    Calls Tryz.prog 24 #[.pointer (some ⟨c, 0, none⟩), .int .i64 d] w (ObjPost S c (objP f b l) w) := by
  have hb0 := Blk.new w 25 #[.int .i64 0, .int .i64 0, .string ⟨#[]⟩, .slice none 0 0, .slice none 0 0]
  obtain ⟨ti, tt, ta, tp, hps, htv⟩ := h
  obtain ⟨c0, c1, c2, c3, c4, c5⟩ := ps_cells hps
  have hlt := Blk.lt hps
  have HP : Hid (PsAt w c S b l) := ⟨ti, tt, ta, tp, hps, htv⟩
  have HN : Hid (∀ e w', objP f b l = none → PanE e → FrP c w w' → ObjPost S c (objP f b l) w e w') := fun e w' h1 h2 h3 => ⟨h3, by rw [h1]; exact h2⟩
  have HG := Lib.hid hg
  have HO : Hid (objP f b l = objP f b l) := rfl
  clear hps htv hg hb0
  generalize hr : objP f b l = r at *
  have HR := Lib.hid hr
  obtain ⟨tk, htk⟩ : ∃ tk, tk = b.kind := ⟨_, rfl⟩
  rw [← htk] at c1
  have HTk := Lib.hid htk
  clear hr htk HO
  have hfr0 : FrS w.heap.size (fun k => k = c) w (w.alloc (.cells #[.int .i64 0, .int .i64 0, .string ⟨#[]⟩, .slice none 0 0, .slice none 0 0] 25)) := (FrS.refl _ _ _).alloc (Nat.le_refl _) _
  clear hfr0
  by_cases e0 : tk = 0
  · have q0 : (tk == 0) = true := by simpa using e0
    have HRn : Hid (r = none) := by
      unfold Hid; rw [← HR.out]
      cases f with
      | zero => rfl
      | succ f => simp only [objP]; rw [if_pos (.inl (by rw [← HTk.out]; exact e0))]
    clear e0
    go_enter Tryz.func24, Tryz.ntmps24
    go_wp2_with (go_at_call 25; refine (fail_any _ _ _).mono ?_; rintro e w4 ⟨rfl, rfl⟩)
    exact ⟨rfl, HN.out _ _ HRn.out ⟨_, _, by decide, rfl⟩ (((FrS.refl _ _ _).alloc (Nat.le_refl _) _).alloc (by simp) _)⟩
  have q0 : (tk == 0) = false := by simpa using e0
  by_cases e7 : tk = 7
  · have q7 : (tk == 7) = true := by simpa using e7
    have HRn : Hid (r = none) := by
      unfold Hid; rw [← HR.out]
      cases f with
      | zero => rfl
      | succ f => simp only [objP]; rw [if_pos (.inr (.inl (by rw [← HTk.out]; exact e7)))]
    clear e7 e0
    go_enter Tryz.func24, Tryz.ntmps24
    go_wp2_with (go_at_call 25; refine (fail_any _ _ _).mono ?_; rintro e w4 ⟨rfl, rfl⟩)
    exact ⟨rfl, HN.out _ _ HRn.out ⟨_, _, by decide, rfl⟩ (((FrS.refl _ _ _).alloc (Nat.le_refl _) _).alloc (by simp) _)⟩
  have q7 : (tk == 7) = false := by simpa using e7
  by_cases e9 : tk = 9
  · have q9 : (tk == 9) = true := by simpa using e9
    have HRn : Hid (r = none) := by
      unfold Hid; rw [← HR.out]
      cases f with
      | zero => rfl
      | succ f => simp only [objP]; rw [if_pos (.inr (.inr (by rw [← HTk.out]; exact e9)))]
    clear e9 e7 e0
    go_enter Tryz.func24, Tryz.ntmps24
    go_wp2_with (go_at_call 25; refine (fail_any _ _ _).mono ?_; rintro e w4 ⟨rfl, rfl⟩)
    exact ⟨rfl, HN.out _ _ HRn.out ⟨_, _, by decide, rfl⟩ (((FrS.refl _ _ _).alloc (Nat.le_refl _) _).alloc (by simp) _)⟩
  have q9 : (tk == 9) = false := by simpa using e9
  by_cases e12 : 12 < d
  · have g12 : (12 : Int) < (d : Int) := by omega
    have HRn : Hid (r = none) := by
      unfold Hid; rw [← HR.out]
      cases f with
      | zero => rfl
      | succ f => omega
    clear e9 e7 e0 e12
    go_enter Tryz.func24, Tryz.ntmps24
    go_wp2_with (go_at_call 25; refine (fail_any _ _ _).mono ?_; rintro e w4 ⟨rfl, rfl⟩)
    exact ⟨rfl, HN.out _ _ HRn.out ⟨_, _, by decide, rfl⟩ (((FrS.refl _ _ _).alloc (Nat.le_refl _) _).alloc (by simp) _)⟩
  have g12 : ¬ (12 : Int) < (d : Int) := by omega
  obtain ⟨f, rfl⟩ : ∃ k, f = k + 1 := ⟨f - 1, by omega⟩
  have HRs := Lib.hid (HR.out.symm.trans (objP_succ f b l (by rw [← HTk.out]; exact e0) (by rw [← HTk.out]; exact e7) (by rw [← HTk.out]; exact e9)))
  have HK0 : Hid (b.kind ≠ 0) := by unfold Hid; rw [← HTk.out]; exact e0
  have hb0 := (Blk.new w 25 #[.int .i64 0, .int .i64 0, .string ⟨#[]⟩, .slice none 0 0, .slice none 0 0]).alloc (.cells #[.int .i64 tk, .int .i64 ti, .string tt, .int .i64 ta, .int .i64 tp] 53)
  have hf0 : FrS w.heap.size (fun _ => False) w ((w.alloc (.cells #[.int .i64 0, .int .i64 0, .string ⟨#[]⟩, .slice none 0 0, .slice none 0 0] 25)).alloc (.cells #[.int .i64 tk, .int .i64 ti, .string tt, .int .i64 ta, .int .i64 tp] 53)) := ((FrS.refl _ _ _).alloc (Nat.le_refl _) _).alloc (by simp) _
  have hs0 : w.heap.size + 2 = ((w.alloc (.cells #[.int .i64 0, .int .i64 0, .string ⟨#[]⟩, .slice none 0 0, .slice none 0 0] 25)).alloc (.cells #[.int .i64 tk, .int .i64 ti, .string tt, .int .i64 ta, .int .i64 tp] 53)).heap.size := by simp
  have HB0 := Lib.hid hb0
  have HF0 := Lib.hid hf0
  have HS0 := Lib.hid hs0
  clear hb0 hf0 hs0
  by_cases e6 : tk = 6
  · have q6 : (tk == 6) = true := by simpa using e6
    have HRk : Hid (r = listR (listP (objP f) 257 [] l)) := by have := HRs.out; rw [if_pos (by rw [← HTk.out]; exact e6)] at this; exact this
    have HL := Lib.hid fun W => list_any S hS c (objP f) d (by omega) (fun b l W h => HG.out b l W (by omega) h) b l HK0.out W
    clear e6 e0 e7 e9
    go_enter Tryz.func24, Tryz.ntmps24
    go_wp2_with fail
    generalize ((w.alloc (.cells #[.int .i64 0, .int .i64 0, .string ⟨#[]⟩, .slice none 0 0, .slice none 0 0] 25)).alloc (.cells #[.int .i64 tk, .int .i64 ti, .string tt, .int .i64 ta, .int .i64 tp] 53)) = w2 at *
    have hs2 := HS0.out
    have HP2 := Lib.hid (HP.out.fr HF0.out hlt (fun h => h))
    refine (HL.out _ HP2.out).mono ?_
    rintro e w3 ⟨hf3, hq3⟩
    have hs3 := hf3.size
    have HB3 := Lib.hid (hf3.blk HB0.out (by omega) (by omega))
    have HF3 := Lib.hid hf3
    have HFr3 : Hid (FrP c w w3) := (HF0.out.weak (Nat.le_refl _) fun _ _ h => h.elim).trans (hf3.weak (by omega) fun _ _ h => h)
    generalize hgo : listR (listP (objP f) 257 [] l) = go at *
    clear hf3
    cases go with
    | none =>
      obtain ⟨x, y, hy, rfl⟩ := hq3
      go_wp2_with fail
      exact ⟨rfl, HN.out _ _ HRk.out ⟨x, y, hy, rfl⟩ HFr3.out⟩
    | some ol =>
      obtain ⟨o, l2⟩ := ol
      obtain ⟨u, b2, rfl, hob, hb2, hps2⟩ := hq3
      have HB2 := Lib.hid hb2
      have HPs2 := Lib.hid hps2
      have HRz : Hid (r = some (o, l2)) := HRk.out
      clear hb2 hps2 hgo
      obtain ⟨kv, dv, us, hu, hsl, hsm, -, -⟩ := hob.open_
      obtain ⟨uk, ui, ut, uks, uos⟩ := u
      injection hu with h1 h2 h3 h4 h5
      subst h1 h2 h3 h4 h5
      obtain ⟨Ak, ck, rfl⟩ := hsl.form
      obtain ⟨Ad, cd, rfl⟩ := hsm.form
      have HOb := Lib.hid hob
      unfold V5.val
      generalize hsl1 : (strs o.keys).length = n1 at *
      generalize hsl2 : o.kids.length = n2 at *
      generalize hk1 : o.kind = k1 at *
      generalize hi1 : o.int = i1 at *
      generalize ht1 : (⟨o.text.toArray⟩ : ByteArray) = T2 at *
      clear hob hsl hsm hsl1 hsl2 hk1 hi1 ht1
      obtain ⟨y0, y1, y2, y3, y4⟩ := b5_cells (v := ⟨.int .i64 0, .int .i64 0, .string ⟨#[]⟩, .slice none 0 0, .slice none 0 0⟩) HB3.out
      have z0 := Blk.frozen HB3.out 0
      have z1 := Blk.frozen HB3.out 1
      have z2 := Blk.frozen HB3.out 2
      have z3 := Blk.frozen HB3.out 3
      have z4 := Blk.frozen HB3.out 4
      have zl := HB3.out.lt
      go_wp2_with fail
      have hbz := b5_put (v := ⟨.int .i64 0, .int .i64 0, .string ⟨#[]⟩, .slice none 0 0, .slice none 0 0⟩) HB3.out ⟨.int .i64 k1, .int .i64 i1, .string T2, .slice Ak n1 ck, .slice Ad n2 cd⟩
      have hfx := b5_frs' (FrS.refl w3.heap.size (fun k => k = w.heap.size) w3) (T := fun k => k = w.heap.size) rfl ⟨.int .i64 k1, .int .i64 i1, .string T2, .slice Ak n1 ck, .slice Ad n2 cd⟩
      refine bodyPost_ret (v := .agg #[.int .i64 k1, .int .i64 i1, .string T2, .slice Ak n1 ck, .slice Ad n2 cd]) ?_ rfl ?_
      · obtain ⟨z0, z1, z2, z3, z4⟩ := b5_cells hbz
        clear hbz hfx
        generalize World.setCell _ _ _ = W at *
        simp [results, Tryz.results24, go_sem, z0, z1, z2, z3, z4]
      · refine ⟨HFr3.out.trans (hfx.weak (by omega) fun k h1 h2 => by omega), ?_⟩
        rw [HRz.out]
        have hz := (show ObjV (fun k => w2.heap.size ≤ k) w3 ⟨.int .i64 k1, .int .i64 i1, .string T2, .slice Ak n1 ck, .slice Ad n2 cd⟩ o from HOb.out).keep hfx.size fun k hk hl => hfx.block k hl (by omega)
        exact ⟨_, b2, rfl, hz.mono fun k _ hk => by omega, HB2.out, HPs2.out.fr hfx (by have := HPs2.out.lt; omega) (by omega)⟩
  have q6 : (tk == 6) = false := by simpa using e6
  by_cases e8 : tk = 8
  · have q8 : (tk == 8) = true := by simpa using e8
    have HRk : Hid (r = dictR (dictP (objP f) 257 [] [] l)) := by have := HRs.out; rw [if_neg (by rw [← HTk.out]; exact e6), if_pos (by rw [← HTk.out]; exact e8)] at this; exact this
    have HL := Lib.hid fun W => dict_any S hS c (objP f) d (by omega) (fun b l W h => HG.out b l W (by omega) h) b l HK0.out W
    clear e8 e6 e0 e7 e9
    go_enter Tryz.func24, Tryz.ntmps24
    go_wp2_with fail
    generalize ((w.alloc (.cells #[.int .i64 0, .int .i64 0, .string ⟨#[]⟩, .slice none 0 0, .slice none 0 0] 25)).alloc (.cells #[.int .i64 tk, .int .i64 ti, .string tt, .int .i64 ta, .int .i64 tp] 53)) = w2 at *
    have hs2 := HS0.out
    have HP2 := Lib.hid (HP.out.fr HF0.out hlt (fun h => h))
    refine (HL.out _ HP2.out).mono ?_
    rintro e w3 ⟨hf3, hq3⟩
    have hs3 := hf3.size
    have HB3 := Lib.hid (hf3.blk HB0.out (by omega) (by omega))
    have HF3 := Lib.hid hf3
    have HFr3 : Hid (FrP c w w3) := (HF0.out.weak (Nat.le_refl _) fun _ _ h => h.elim).trans (hf3.weak (by omega) fun _ _ h => h)
    generalize hgo : dictR (dictP (objP f) 257 [] [] l) = go at *
    clear hf3
    cases go with
    | none =>
      obtain ⟨x, y, hy, rfl⟩ := hq3
      go_wp2_with fail
      exact ⟨rfl, HN.out _ _ HRk.out ⟨x, y, hy, rfl⟩ HFr3.out⟩
    | some ol =>
      obtain ⟨o, l2⟩ := ol
      obtain ⟨u, b2, rfl, hob, hb2, hps2⟩ := hq3
      have HB2 := Lib.hid hb2
      have HPs2 := Lib.hid hps2
      have HRz : Hid (r = some (o, l2)) := HRk.out
      clear hb2 hps2 hgo
      obtain ⟨kv, dv, us, hu, hsl, hsm, -, -⟩ := hob.open_
      obtain ⟨uk, ui, ut, uks, uos⟩ := u
      injection hu with h1 h2 h3 h4 h5
      subst h1 h2 h3 h4 h5
      obtain ⟨Ak, ck, rfl⟩ := hsl.form
      obtain ⟨Ad, cd, rfl⟩ := hsm.form
      have HOb := Lib.hid hob
      unfold V5.val
      generalize hsl1 : (strs o.keys).length = n1 at *
      generalize hsl2 : o.kids.length = n2 at *
      generalize hk1 : o.kind = k1 at *
      generalize hi1 : o.int = i1 at *
      generalize ht1 : (⟨o.text.toArray⟩ : ByteArray) = T2 at *
      clear hob hsl hsm hsl1 hsl2 hk1 hi1 ht1
      obtain ⟨y0, y1, y2, y3, y4⟩ := b5_cells (v := ⟨.int .i64 0, .int .i64 0, .string ⟨#[]⟩, .slice none 0 0, .slice none 0 0⟩) HB3.out
      have z0 := Blk.frozen HB3.out 0
      have z1 := Blk.frozen HB3.out 1
      have z2 := Blk.frozen HB3.out 2
      have z3 := Blk.frozen HB3.out 3
      have z4 := Blk.frozen HB3.out 4
      have zl := HB3.out.lt
      go_wp2_with fail
      have hbz := b5_put (v := ⟨.int .i64 0, .int .i64 0, .string ⟨#[]⟩, .slice none 0 0, .slice none 0 0⟩) HB3.out ⟨.int .i64 k1, .int .i64 i1, .string T2, .slice Ak n1 ck, .slice Ad n2 cd⟩
      have hfx := b5_frs' (FrS.refl w3.heap.size (fun k => k = w.heap.size) w3) (T := fun k => k = w.heap.size) rfl ⟨.int .i64 k1, .int .i64 i1, .string T2, .slice Ak n1 ck, .slice Ad n2 cd⟩
      refine bodyPost_ret (v := .agg #[.int .i64 k1, .int .i64 i1, .string T2, .slice Ak n1 ck, .slice Ad n2 cd]) ?_ rfl ?_
      · obtain ⟨z0, z1, z2, z3, z4⟩ := b5_cells hbz
        clear hbz hfx
        generalize World.setCell _ _ _ = W at *
        simp [results, Tryz.results24, go_sem, z0, z1, z2, z3, z4]
      · refine ⟨HFr3.out.trans (hfx.weak (by omega) fun k h1 h2 => by omega), ?_⟩
        rw [HRz.out]
        have hz := (show ObjV (fun k => w2.heap.size ≤ k) w3 ⟨.int .i64 k1, .int .i64 i1, .string T2, .slice Ak n1 ck, .slice Ad n2 cd⟩ o from HOb.out).keep hfx.size fun k hk hl => hfx.block k hl (by omega)
        exact ⟨_, b2, rfl, hz.mono fun k _ hk => by omega, HB2.out, HPs2.out.fr hfx (by have := HPs2.out.lt; omega) (by omega)⟩
  have q8 : (tk == 8) = false := by simpa using e8
  · have HRk : Hid (r = match leafP b with | none => none | some o => some (o, l)) := by have := HRs.out; rw [if_neg (by rw [← HTk.out]; exact e6), if_neg (by rw [← HTk.out]; exact e8)] at this; exact this
    have HLt : Hid (∀ W, PsAt W c S b l → b.kind < 6) := fun W hW => by
      obtain ⟨_, _, _, _, _, hv⟩ := hW
      have hvt := (hv HK0.out).1
      have h6 : b.kind ≠ 6 := by rw [← HTk.out]; exact e6
      have h7 : b.kind ≠ 7 := by rw [← HTk.out]; exact e7
      have h8 : b.kind ≠ 8 := by rw [← HTk.out]; exact e8
      have h9 : b.kind ≠ 9 := by rw [← HTk.out]; exact e9
      clear HTk
      cases hvt <;> first | (dsimp only at *; omega) | contradiction
    have HL := Lib.hid fun W h => leaf_any S c b l W (HLt.out W h) HK0.out h
    clear e0 e6 e7 e8 e9
    go_enter Tryz.func24, Tryz.ntmps24
    go_wp2_with fail
    generalize ((w.alloc (.cells #[.int .i64 0, .int .i64 0, .string ⟨#[]⟩, .slice none 0 0, .slice none 0 0] 25)).alloc (.cells #[.int .i64 tk, .int .i64 ti, .string tt, .int .i64 ta, .int .i64 tp] 53)) = w2 at *
    have hs2 := HS0.out
    have HP2 := Lib.hid (HP.out.fr HF0.out hlt (fun h => h))
    refine (HL.out _ HP2.out).mono ?_
    rintro e w3 ⟨hf3b, hq3⟩
    have hf3 : FrS w2.heap.size (fun k => k = c) w2 w3 := FrS.of_below hf3b (Nat.le_refl _)
    have HP3 := Lib.hid (HP2.out.below hf3b HP2.out.lt)
    clear hf3b
    have hs3 := hf3.size
    have HB3 := Lib.hid (hf3.blk HB0.out (by omega) (by omega))
    have HF3 := Lib.hid hf3
    have HFr3 : Hid (FrP c w w3) := (HF0.out.weak (Nat.le_refl _) fun _ _ h => h.elim).trans (hf3.weak (by omega) fun _ _ h => h)
    generalize hgo : leafP b = go at *
    clear hf3
    cases go with
    | none =>
      obtain ⟨x, y, hy, rfl⟩ := hq3
      go_wp2_with fail
      exact ⟨rfl, HN.out _ _ HRk.out ⟨x, y, hy, rfl⟩ HFr3.out⟩
    | some ol =>
      obtain ⟨u, rfl, hob⟩ := hq3
      have HRz : Hid (r = some (ol, l)) := HRk.out
      clear hgo
      obtain ⟨o, ho⟩ : ∃ o, o = ol := ⟨_, rfl⟩
      rw [← ho] at hob HRz
      clear ho
      obtain ⟨kv, dv, us, hu, hsl, hsm, -, -⟩ := hob.open_
      obtain ⟨uk, ui, ut, uks, uos⟩ := u
      injection hu with h1 h2 h3 h4 h5
      subst h1 h2 h3 h4 h5
      obtain ⟨Ak, ck, rfl⟩ := hsl.form
      obtain ⟨Ad, cd, rfl⟩ := hsm.form
      have HOb := Lib.hid hob
      unfold V5.val
      generalize hsl1 : (strs o.keys).length = n1 at *
      generalize hsl2 : o.kids.length = n2 at *
      generalize hk1 : o.kind = k1 at *
      generalize hi1 : o.int = i1 at *
      generalize ht1 : (⟨o.text.toArray⟩ : ByteArray) = T2 at *
      clear hob hsl hsm hsl1 hsl2 hk1 hi1 ht1
      obtain ⟨y0, y1, y2, y3, y4⟩ := b5_cells (v := ⟨.int .i64 0, .int .i64 0, .string ⟨#[]⟩, .slice none 0 0, .slice none 0 0⟩) HB3.out
      have z0 := Blk.frozen HB3.out 0
      have z1 := Blk.frozen HB3.out 1
      have z2 := Blk.frozen HB3.out 2
      have z3 := Blk.frozen HB3.out 3
      have z4 := Blk.frozen HB3.out 4
      have zl := HB3.out.lt
      go_wp2_with fail
      have hbz := b5_put (v := ⟨.int .i64 0, .int .i64 0, .string ⟨#[]⟩, .slice none 0 0, .slice none 0 0⟩) HB3.out ⟨.int .i64 k1, .int .i64 i1, .string T2, .slice Ak n1 ck, .slice Ad n2 cd⟩
      have hfx := b5_frs' (FrS.refl w3.heap.size (fun k => k = w.heap.size) w3) (T := fun k => k = w.heap.size) rfl ⟨.int .i64 k1, .int .i64 i1, .string T2, .slice Ak n1 ck, .slice Ad n2 cd⟩
      refine bodyPost_ret (v := .agg #[.int .i64 k1, .int .i64 i1, .string T2, .slice Ak n1 ck, .slice Ad n2 cd]) ?_ rfl ?_
      · obtain ⟨z0, z1, z2, z3, z4⟩ := b5_cells hbz
        clear hbz hfx
        generalize World.setCell _ _ _ = W at *
        simp [results, Tryz.results24, go_sem, z0, z1, z2, z3, z4]
      · refine ⟨HFr3.out.trans (hfx.weak (by omega) fun k h1 h2 => by omega), ?_⟩
        rw [HRz.out]
        have hz := (show ObjV (fun k => w2.heap.size ≤ k) w3 ⟨.int .i64 k1, .int .i64 i1, .string T2, .slice Ak n1 ck, .slice Ad n2 cd⟩ o from HOb.out).keep hfx.size fun k hk hl => hfx.block k hl (by omega)
        exact ⟨_, b, rfl, hz.mono fun k _ hk => by omega, HK0.out, HP3.out.fr hfx (by have := HP3.out.lt; omega) (by omega)⟩
theorem object_any (S : ByteArray) (hS : S.size ≤ 8192) (c : Nat) : ∀ (f : Nat), f ≤ 12 → ∀ (b : BTok) (l : Tk.Src) (w : World), PsAt w c S b l →
    Calls Tryz.prog 24 #[.pointer (some ⟨c, 0, none⟩), .int .i64 ((13 - f : Nat) : Int)] w (ObjPost S c (objP f b l) w)
  | 0, _, b, l, w, h => obj_step S hS c 0 13 rfl (by omega) (fun b l W h0 => by omega) b l w h
  | f + 1, hf, b, l, w, h => obj_step S hS c (f + 1) (13 - (f + 1)) (by omega) (by omega) (fun b l W _ hW => by
      have := object_any S hS c f (by omega) b l W hW
      rwa [show ((13 - f : Nat) : Int) = ((13 - (f + 1) : Nat) : Int) + 1 by omega] at this) b l w h
end Go.Proofs.YthbdhijkdldmoaaGreatDoor
