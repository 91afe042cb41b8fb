/- The walk of nested (printed by gen_nest.py). -/
import Derived.Test.YthbdhijkdldmoaaGreatDoorObjAdd
namespace Go.Proofs.YthbdhijkdldmoaaGreatDoor
open Go.RowKit Tk Ob
theorem kids_eq {o : Ox} {d : Nat} (h : nodeE o d = 0) (hk : o.kind = 7) : o.keys.length = o.kids.length := (nodeE_zero h).2.2.2.2.2.2.1 hk
theorem kids_le {o : Ox} {d : Nat} (h : nodeE o d = 0) : o.kids.length ≤ 256 := (nodeE_zero h).2.2.2.2.2.2.2.2.2.1
def kidR (pre : List BTok) (r : Except Int (List BTok × Nat)) : Except Int (List BTok × Nat) := match r with
  | .error e => .error e
  | .ok (l, m) => .ok (pre ++ l, m)
theorem kidR_nil (r : Except Int (List BTok × Nat)) : kidR [] r = r := by
  cases r with
  | error e => rfl
  | ok lm => rfl
theorem kidR_kidR (a b : List BTok) (r : Except Int (List BTok × Nat)) : kidR a (kidR b r) = kidR (a ++ b) r := by
  cases r with
  | error e => rfl
  | ok lm => simp [kidR]
theorem kid_err {g : Ox → Nat → Except Int (List BTok × Nat)} {dict : Bool} {ks : List Tk.Src} {o : Ox} {os : List Ox} {n : Nat} {e : Int} (h : g o n = .error e) : kidsF g dict ks (o :: os) n = .error e := by
  simp only [kidsF]; rw [h]
theorem kid_ok {g : Ox → Nat → Except Int (List BTok × Nat)} {dict : Bool} {ks : List Tk.Src} {o : Ox} {os : List Ox} {n m : Nat} {l : List BTok} (h : g o n = .ok (l, m)) : kidsF g dict ks (o :: os) n = kidR ((if dict then [⟨2, 0, ks.headD []⟩] else []) ++ l) (kidsF g dict ks.tail os m) := by
  simp only [kidsF]; rw [h]; dsimp only
  cases kidsF g dict ks.tail os m with
  | error e => rfl
  | ok lm => simp [kidR]
set_option maxRecDepth 100000 in
set_option maxHeartbeats 16000000 in
theorem nested_k6 (f d : Nat) (hfd : f + 1 + d = 13) (b B : Nat) (hbB : b < B) (i : Int) (t : Tk.Src) (keys : List Tk.Src) (kids : List Ox) (A Bd : Option Addr) (ck cd : Nat) (vs : List V5) (v : Value) (ts : List BTok) (n : Nat) (hn : n ≤ 4096) (hts : ts.length + 3 ≤ 3 * n + 2 * d) (w : World) (hB : B ≤ w.heap.size)
    (hp : PrS w b B v ts n) (hsl : Sl w (PO b B) (.slice A keys.length ck) (strs keys)) (hsm : SlM w (PO b B) (.slice Bd kids.length cd) kids.length (v5cs vs)) (hvl : vs.length = kids.length) (hkid : ∀ j (h : j < kids.length) (h2 : j < vs.length), ObjV (PO b B) w vs[j] kids[j])
    (hT : ∀ W, Below b w W → Tab10 W) (hkl : kids.length ≤ 256)
    (hA : ∀ (o : Ox) (vo : V5) (v : Value) (ts : List BTok) (n : Nat) (W : World), n ≤ 4096 → ts.length ≤ 3 * n + 2 * (d + 1) → B ≤ W.heap.size → PrS W b B v ts n → ObjV (PO b B) W vo o → (∀ W', Below b W W' → Tab10 W') → Calls Tryz.prog 20 #[.pointer (some ⟨b, 0, none⟩), vo.val, .int .i64 ((d : Int) + 1)] W (AddPost b B v ts (addF f (d + 1) o n) W)) :
    Calls Tryz.prog 40 #[.pointer (some ⟨b, 0, none⟩), .agg #[.int .i64 6, .int .i64 i, .string ⟨t.toArray⟩, .slice A keys.length ck, .slice Bd kids.length cd], .int .i64 d] w (AddPost b B v ts (nestR 6 (kidsF (addF f (d + 1)) false keys kids n)) w) := by
  obtain ⟨Av, cv, rfl⟩ := own_form hp.own
  have HP := Lib.hid hp
  have HT := Lib.hid hT
  have HA := Lib.hid hA
  have HSl := Lib.hid hsl
  have HSm := Lib.hid hsm
  have HKid := Lib.hid hkid
  have HVl := Lib.hid hvl
  have HVo : Hid (∀ k, (Value.slice Av ts.length cv).ownBlock = some k → B ≤ k ∧ k < w.heap.size) := fun k hk => own_lt hp.own k hk
  obtain ⟨c0, c1, f0, f1, hlt⟩ := hp.cells
  have HG : Hid (∀ o n l m, addF f (d + 1) o n = .ok (l, m) → l.length + 1 + 3 * n ≤ 3 * m ∧ m ≤ 4096) := fun o n l m h => add_len f (d + 1) o n l m h
  obtain ⟨S, hS⟩ : ∃ S : ByteArray, S = ⟨t.toArray⟩ := ⟨_, rfl⟩
  rw [← hS]
  clear hp hT hA hsl hsm hkid hvl hS
  have hpb := HP.out.alloc (.cells #[.int .i64 6, .int .i64 i, .string S, .slice A keys.length ck, .slice Bd kids.length cd] 25)
  have hbox : B5 (w.alloc (.cells #[.int .i64 6, .int .i64 i, .string S, .slice A keys.length ck, .slice Bd kids.length cd] 25)) w.heap.size ⟨.int .i64 6, .int .i64 i, .string S, .slice A keys.length ck, .slice Bd kids.length cd⟩ := Blk.new w _ _
  have hfb : FrS w.heap.size (TPr b (.slice Av ts.length cv)) w (w.alloc (.cells #[.int .i64 6, .int .i64 i, .string S, .slice A keys.length ck, .slice Bd kids.length cd] 25)) := (FrS.refl _ _ _).alloc (Nat.le_refl _) _
  have hs1 : w.heap.size + 1 = (w.alloc (.cells #[.int .i64 6, .int .i64 i, .string S, .slice A keys.length ck, .slice Bd kids.length cd] 25)).heap.size := by simp
  have HP1 := Lib.hid hpb
  have HF1 := Lib.hid hfb
  have HBx := Lib.hid hbox
  have HS1 := Lib.hid hs1
  clear hpb hfb hbox hs1
  go_enter Tryz.func40, Tryz.ntmps40
  go_upto_region 4 with (fail)
  generalize w.alloc (.cells #[.int .i64 6, .int .i64 i, .string S, .slice A keys.length ck, .slice Bd kids.length cd] 25) = w1 at *
  have hs1 := HS1.out
  obtain ⟨x0, x1, x2, x3, x4⟩ := b5_cells HBx.out
  obtain ⟨p0, p1, pf0, pf1, pl⟩ := HP1.out.cells
  clear c0 c1 f0 f1
  go_upto_region 5 with (at_builtin; go_must (refine wpList_pushk eTk rfl (.tmp 19) (.tmp 22) rfl B (.slice Av ts.length cv) ts.length _ rfl (HP1.out.alloc _).own ⟨w1.heap.size, 0, none⟩ 1 [.int .i64 6, .int .i64 0, .string ⟨#[]⟩, .int .i64 0, .int .i64 0] rfl rfl (news_new _ _ _ _ rfl) (by simp [Value.oneCell']) (by omega) (by omega) (by omega) (by simp; omega) ?_); go_must (intro v' w5 hown5 hgr5 hv5; have HO5 := Lib.hid hown5; have HG5 := Lib.hid hgr5; have HV5 := Lib.hid hv5; have hb5 := HP1.out.alloc (.cells #[.int .i64 6, .int .i64 0, .string ⟨#[]⟩, .int .i64 0, .int .i64 0] 53); have hb6 := hb5.blk.grown hgr5 (fun e => by have := (own_lt HP1.out.own _ e.symm).1; omega); have q0 := Blk.cell hb6 0; have qf := Blk.frozen hb6 0; have ql := hb6.lt; simp at q0; obtain ⟨A5, c5, rfl⟩ := own_form hown5; clear hown5 hgr5 hv5 hb5 hb6))
  have hpu := HP1.out.push hbB ⟨6, 0, []⟩ rfl HO5.out HG5.out HV5.out
  have HP2 := Lib.hid hpu.1
  have HV2 := Lib.hid hpu.2.2
  have hf2 := hpu.2.1
  have hs2 : w1.heap.size ≤ (w5.setCell ⟨b, 0, none⟩ (.slice A5 (ts.length + 1) c5)).heap.size := hf2.size
  have hbx2 := hf2.blk HBx.out (by omega) (fun e => e.elim (fun e => by omega) fun e => by have := HVo.out _ e; omega)
  have HBx2 : Hid (B5 (w5.setCell ⟨b, 0, none⟩ (.slice A5 (ts.length + 1) c5)) w.heap.size ⟨.int .i64 6, .int .i64 i, .string S, .slice A keys.length ck, .slice Bd kids.length cd⟩) := hbx2
  have HFr2 : Hid (FrS w.heap.size (TPr b (.slice Av ts.length cv)) w (w5.setCell ⟨b, 0, none⟩ (.slice A5 (ts.length + 1) c5))) := HF1.out.trans (hf2.weak (by omega) fun _ _ h => h)
  have HLt : Hid ((ts ++ [(⟨6, 0, []⟩ : BTok)]).length = ts.length + 1) := by unfold Hid; simp
  clear hpu hf2 hbx2 q0 qf ql x0 x1 x2 x3 x4 p0 p1 pf0 pf1
  generalize w5.setCell ⟨b, 0, none⟩ (.slice A5 (ts.length + 1) c5) = w2 at *
  obtain ⟨x0, x1, x2, x3, x4⟩ := b5_cells HBx2.out
  go_wp2_with fail
  have HR0 : Hid (kidsF (addF f (d + 1)) false keys kids n = kidR [] (kidsF (addF f (d + 1)) false (keys.drop 0) (kids.drop 0) n)) := by unfold Hid; rw [kidR_nil, List.drop_zero, List.drop_zero]
  generalize hR : kidsF (addF f (d + 1)) false keys kids n = R at *
  have HR := Lib.hid hR
  clear hR x0 x1 x2 x3 x4
  go_loopw [29] (fun v29 wq => True ∧ ∃ (j : Nat) (l : List BTok) (m : Nat) (Aq : Option Addr) (cq : Nat), v29 = .int .i64 j ∧ j ≤ kids.length ∧ R = kidR l (kidsF (addF f (d + 1)) false (keys.drop j) (kids.drop j) m) ∧ m ≤ 4096 ∧ l.length + 3 * n ≤ 3 * m ∧ PrS wq b B (.slice Aq (ts.length + 1 + l.length) cq) (ts ++ [⟨6, 0, []⟩] ++ l) m ∧
    B5 wq w.heap.size ⟨.int .i64 6, .int .i64 i, .string S, .slice A keys.length ck, .slice Bd kids.length cd⟩ ∧ FrS w.heap.size (TPr b (.slice Av ts.length cv)) w wq ∧ w.heap.size + 1 ≤ wq.heap.size ∧ ((Value.slice Aq (ts.length + 1 + l.length) cq).ownBlock = (Value.slice Av ts.length cv).ownBlock ∨ ∃ k, (Value.slice Aq (ts.length + 1 + l.length) cq).ownBlock = some k ∧ w.heap.size + 1 ≤ k)) (fun v29 _ => kids.length - (intOf v29).toNat)
  case atStart => exact ⟨trivial, 0, [], n, A5, c5, rfl, Nat.zero_le _, HR0.out, hn, by simp, by simpa using HP2.out, HBx2.out, HFr2.out, by omega, HV2.out.imp id fun ⟨k, h1, h2⟩ => ⟨k, h1, by omega⟩⟩
  case round =>
    obtain ⟨-, j, l, m, Aq, cq, rfl, hj, hr, hm, hll, hpr, hbx, hfr, hsz, hvq⟩ := hrel
    have HRj := Lib.hid hr
    have HPr := Lib.hid hpr
    have HBxr := Lib.hid hbx
    have HFr := Lib.hid hfr
    have HVq := Lib.hid hvq
    have HQo : Hid (∀ k, (Value.slice Aq (ts.length + 1 + l.length) cq).ownBlock = some k → B ≤ k ∧ k < wr.heap.size ∧ k ≠ w.heap.size) := fun k hk => by
      have h1 := own_lt hpr.own k hk
      refine ⟨h1.1, h1.2, fun e => ?_⟩
      rcases hvq with h | ⟨g, h, h3⟩
      · rw [h] at hk; have := HVo.out k hk; omega
      · rw [h] at hk; cases hk; omega
    have HLl : Hid ((ts ++ [(⟨6, 0, []⟩ : BTok)] ++ l).length = ts.length + 1 + l.length) := by unfold Hid; simp; omega
    obtain ⟨x0, x1, x2, x3, x4⟩ := b5_cells hbx
    obtain ⟨p0, p1, pf0, pf1, pl⟩ := hpr.cells
    clear hr hpr hbx hfr hvq
    by_cases hlt2 : j < kids.length
    · have hji : (j : Int) < (kids.length : Int) := by omega
      have hvj : j < vs.length := by rw [HVl.out]; exact hlt2
      obtain ⟨bd, od, hbd, hbP, hbw, hcl⟩ := v5_at (l := vs) (by rw [HVl.out]; exact HSm.out) (by omega)
      subst hbd
      obtain ⟨y0, y1, y2, y3, y4⟩ := hcl j hvj
      have hko := HKid.out j hlt2 hvj
      have HKo : Hid (ObjV (PO b B) wr vs[j] kids[j]) := hko.keep HFr.out.size fun k hk hl => HFr.out.block k hl fun e => e.elim (fun e => hk.2 e) fun e => by have := (HVo.out k e).1; have := hk.1; omega
      have hcellk : ∀ (p : Nat) (u : Value), w.cell? ⟨bd, p, none⟩ = some u → wr.cell? ⟨bd, p, none⟩ = some u := fun p u h => by
        rw [World.cell?_of_block (w := w) (a := ⟨bd, p, none⟩) (HFr.out.block bd hbw fun e => e.elim (fun e => hbP.2 e) fun e => by have := (HVo.out bd e).1; have := hbP.1; omega)]; exact h
      replace y0 := hcellk _ _ y0
      replace y1 := hcellk _ _ y1
      replace y2 := hcellk _ _ y2
      replace y3 := hcellk _ _ y3
      replace y4 := hcellk _ _ y4
      have HRs := HRj.out
      rw [List.drop_eq_getElem_cons hlt2] at HRs
      have HRs2 := Lib.hid HRs
      generalize vs[j] = vk at *
      generalize kids[j] = ok at *
      obtain ⟨kvk, dvk, usk, hvk, hslk, hsmk, -, -⟩ := HKo.out.open_
      obtain ⟨Ak, ckk, rfl⟩ := hslk.form
      obtain ⟨Adk, cdk, rfl⟩ := hsmk.form
      subst hvk
      dsimp only at y0 y1 y2 y3 y4
      generalize (strs ok.keys).length = n1 at *
      generalize hn2 : ok.kids.length = n2 at *
      generalize hk1 : ok.kind = k1 at *
      generalize hi1 : ok.int = i1 at *
      generalize ht1 : (⟨ok.text.toArray⟩ : ByteArray) = T2 at *
      clear hcl hko hcellk HRs hslk hsmk hn2 hk1 hi1 ht1
      have hbwr : bd < wr.heap.size := by have := HFr.out.size; omega
      go_upto_region 8 with (fail)
      have hf3 : FrS wr.heap.size (fun _ => False) wr (wr.alloc (.cells #[.int .i64 k1, .int .i64 i1, .string T2, .slice Ak n1 ckk, .slice Adk n2 cdk] 25)) := (FrS.refl _ _ _).alloc (Nat.le_refl _) _
      have HF3 := Lib.hid hf3
      have hs3 : wr.heap.size + 1 = (wr.alloc (.cells #[.int .i64 k1, .int .i64 i1, .string T2, .slice Ak n1 ckk, .slice Adk n2 cdk] 25)).heap.size := by simp
      have HKc := Lib.hid (Blk.new wr 25 #[.int .i64 k1, .int .i64 i1, .string T2, .slice Ak n1 ckk, .slice Adk n2 cdk])
      have HS3 := Lib.hid hs3
      clear hf3 hs3 x0 x1 x2 x3 x4 y0 y1 y2 y3 y4 p0 p1 pf0 pf1
      generalize wr.alloc (.cells #[.int .i64 k1, .int .i64 i1, .string T2, .slice Ak n1 ckk, .slice Adk n2 cdk] 25) = w3 at *
      have hs3 := HS3.out
      have HP3 := Lib.hid (HPr.out.fr HF3.out (Nat.le_refl _) (fun h => h) fun _ _ h => h)
      have HBx3 : Hid (B5 w3 w.heap.size ⟨.int .i64 6, .int .i64 i, .string S, .slice A keys.length ck, .slice (some ⟨bd, od, none⟩) kids.length cd⟩) := HF3.out.blk HBxr.out HBxr.out.lt (fun h => h)
      have HKo3 := Lib.hid (HKo.out.keep HF3.out.size fun k _ hl => HF3.out.block k hl (fun h => h))
      have HFr3 : Hid (FrS w.heap.size (TPr b (.slice Av ts.length cv)) w w3) := HFr.out.trans (HF3.out.weak (by omega) fun _ _ h => h.elim)
      obtain ⟨x0, x1, x2, x3, x4⟩ := b5_cells HBx3.out
      obtain ⟨p0, p1, pf0, pf1, pl3⟩ := HP3.out.cells
      obtain ⟨y0, y1, y2, y3, y4⟩ := b5n_cells HKc.out
      have hkcl := HKc.out.lt
      have hdi : IntKind.i64.wrap ((d : Int) + 1) = (d : Int) + 1 := IntWalk.i64_in _ (by omega)
      have HAd := Lib.hid (HA.out ok ⟨.int .i64 k1, .int .i64 i1, .string T2, .slice Ak n1 ckk, .slice Adk n2 cdk⟩ (.slice Aq (ts.length + 1 + l.length) cq) (ts ++ [⟨6, 0, []⟩] ++ l) m w3 hm (by rw [HLl.out]; omega) (by omega) HP3.out HKo3.out (fun W' hW => HT.out W' ((tpr_below HFr3.out (by omega) fun q hq => by have := HVo.out q hq; omega).trans hW)))
      unfold V5.val at HAd
      dsimp only at HAd
      generalize hga : addF f (d + 1) ok m = ra at *
      have HGa := Lib.hid hga
      clear hga
      go_wp2_with fail
      refine HAd.out.mono ?_
      rintro e w6 ⟨hf6, hq6⟩
      have hs6 := hf6.size
      have HFr6 : Hid (FrS w.heap.size (TPr b (.slice Av ts.length cv)) w w6) := HFr3.out.trans (hf6.weak (by omega) fun q h1 h2 => h2.elim (fun e => .inl e) fun e => by
        rcases HVq.out with h | ⟨g, h, h3⟩
        · rw [h] at e; exact .inr e
        · rw [h] at e; cases e; omega)
      have HBx6 : Hid (B5 w6 w.heap.size ⟨.int .i64 6, .int .i64 i, .string S, .slice A keys.length ck, .slice (some ⟨bd, od, none⟩) kids.length cd⟩) := hf6.blk HBx3.out HBx3.out.lt (fun e => e.elim (fun e => by omega) fun e => (HQo.out _ e).2.2 rfl)
      clear hf6 HAd
      cases ra with
      | error er =>
        obtain ⟨h1, rfl⟩ := hq6
        have H1 := Lib.hid h1
        have he1 : (er != 0) = true := by simpa using h1
        have HRe : Hid (R = .error er) := by have := HRs2.out; rw [kid_err HGa.out] at this; exact this
        clear h1
        go_wp2_with fail
        go_ret
        refine ⟨HFr6.out, ?_⟩
        rw [HRe.out]
        exact ⟨H1.out, rfl⟩
      | ok lm =>
        obtain ⟨l1, m1⟩ := lm
        obtain ⟨rfl, v6, h1, h2⟩ := hq6
        obtain ⟨A6, c6, rfl⟩ := own_form h1.own
        have HP6 := Lib.hid h1
        have HV6 := Lib.hid h2
        obtain ⟨g1, g2⟩ := HG.out _ _ _ _ HGa.out
        have HRe : Hid (R = kidR (l ++ (([] : List BTok) ++ l1)) (kidsF (addF f (d + 1)) false (keys.drop (j + 1)) (kids.drop (j + 1)) m1)) := by
          have := HRs2.out
          rw [kid_ok HGa.out, kidR_kidR] at this
          unfold Hid; rw [this]
          simp [List.tail_drop]
        clear h1 h2
        go_wp2_with fail
        refine ⟨⟨trivial, j + 1, l ++ (([] : List BTok) ++ l1), m1, A6, c6, rfl, by omega, HRe.out, g2, by simp; omega, ?_, HBx6.out, HFr6.out, by omega, ?_⟩, by simp [intOf]; omega⟩
        · have := HP6.out
          have hl : (ts ++ [(⟨6, 0, []⟩ : BTok)] ++ l ++ l1).length = ts.length + 1 + (l ++ (([] : List BTok) ++ l1)).length := by simp; omega
          rw [← hl, show ts ++ [(⟨6, 0, []⟩ : BTok)] ++ (l ++ (([] : List BTok) ++ l1)) = ts ++ [⟨6, 0, []⟩] ++ l ++ l1 by simp]; exact this
        · have hl : (ts ++ [(⟨6, 0, []⟩ : BTok)] ++ l ++ l1).length = ts.length + 1 + (l ++ (([] : List BTok) ++ l1)).length := by simp; omega
          rw [← hl]
          rcases HV6.out with h | ⟨g, h, h3⟩
          · rw [h]; rcases HVq.out with h' | ⟨g, h', h3⟩
            · exact .inl h'
            · exact .inr ⟨g, h', by omega⟩
          · exact .inr ⟨g, h, by omega⟩
    · have hjj : j = kids.length := by omega
      have hji : ¬ (j : Int) < (kids.length : Int) := by omega
      have HRe : Hid (R = .ok (l, m)) := by
        have := HRj.out
        rw [show kids.drop j = [] from List.drop_eq_nil_of_le (by omega)] at this
        unfold Hid; rw [this]; simp [kidsF, kidR]
      clear hjj
      go_upto_region 15 with (at_builtin; go_must (refine wpList_pushk eTk rfl (.tmp 65) (.tmp 68) rfl B (.slice Aq (ts.length + 1 + l.length) cq) (ts.length + 1 + l.length) _ rfl (own_frs (by have := HPr.out.own; rw [HLl.out] at this; exact this) ((FrS.refl wr.heap.size (fun _ => False) wr).alloc (Nat.le_refl _) _) (Nat.le_refl _) (fun _ h => h.elim)) ⟨wr.heap.size, 0, none⟩ 1 [.int .i64 7, .int .i64 0, .string ⟨#[]⟩, .int .i64 0, .int .i64 0] rfl rfl (news_new _ _ _ _ rfl) (by simp [Value.oneCell']) (by omega) (by omega) (by omega) (by simp; omega) ?_); go_must (intro v' w5 hown5 hgr5 hv5; have HO5 := Lib.hid hown5; have HG5 := Lib.hid hgr5; have HV5 := Lib.hid hv5; have hb5 := HPr.out.alloc (.cells #[.int .i64 7, .int .i64 0, .string ⟨#[]⟩, .int .i64 0, .int .i64 0] 53); have hb6 := hb5.blk.grown hgr5 (fun e => by have := (own_lt HPr.out.own _ e.symm).1; omega); have q0 := Blk.cell hb6 0; have qf := Blk.frozen hb6 0; have ql := hb6.lt; simp at q0; obtain ⟨A5, c5, rfl⟩ := own_form hown5; clear hown5 hgr5 hv5 hb5 hb6))
      have hpu := HPr.out.push hbB ⟨7, 0, []⟩ rfl (by rw [HLl.out]; exact HO5.out) HG5.out HV5.out
      have HP7 := Lib.hid hpu.1
      have HV7 := Lib.hid hpu.2.2
      have HFr7 : Hid (FrS w.heap.size (TPr b (.slice Av ts.length cv)) w (w5.setCell ⟨b, 0, none⟩ (.slice A5 (ts.length + 1 + l.length + 1) c5))) := HFr.out.trans (hpu.2.1.weak (by omega) fun q h1 h2 => h2.elim (fun e => .inl e) fun e => by
        rcases HVq.out with h | ⟨g, h, h3⟩
        · rw [h] at e; exact .inr e
        · rw [h] at e; cases e; omega)
      clear hpu q0 qf ql x0 x1 x2 x3 x4 p0 p1 pf0 pf1
      generalize w5.setCell ⟨b, 0, none⟩ (.slice A5 (ts.length + 1 + l.length + 1) c5) = w7 at *
      go_wp2_with fail
      go_ret
      refine ⟨HFr7.out, ?_⟩
      rw [HRe.out]
      refine ⟨rfl, _, (by have := HP7.out; simpa [nestR] using this), ?_⟩
      rcases HV7.out with h | ⟨g, h, h3⟩
      · rw [h]; exact HVq.out.imp id fun ⟨g, h, h3⟩ => ⟨g, h, by omega⟩
      · exact .inr ⟨g, h, by omega⟩
set_option maxRecDepth 100000 in
set_option maxHeartbeats 16000000 in
theorem nested_k7 (f d : Nat) (hfd : f + 1 + d = 13) (b B : Nat) (hbB : b < B) (i : Int) (t : Tk.Src) (keys : List Tk.Src) (kids : List Ox) (A Bd : Option Addr) (ck cd : Nat) (vs : List V5) (v : Value) (ts : List BTok) (n : Nat) (hn : n ≤ 4096) (hts : ts.length + 3 ≤ 3 * n + 2 * d) (w : World) (hB : B ≤ w.heap.size)
    (hp : PrS w b B v ts n) (hsl : Sl w (PO b B) (.slice A keys.length ck) (strs keys)) (hsm : SlM w (PO b B) (.slice Bd kids.length cd) kids.length (v5cs vs)) (hvl : vs.length = kids.length) (hkid : ∀ j (h : j < kids.length) (h2 : j < vs.length), ObjV (PO b B) w vs[j] kids[j])
    (hT : ∀ W, Below b w W → Tab10 W) (hkl : kids.length ≤ 256) (hkk : keys.length = kids.length)
    (hA : ∀ (o : Ox) (vo : V5) (v : Value) (ts : List BTok) (n : Nat) (W : World), n ≤ 4096 → ts.length ≤ 3 * n + 2 * (d + 1) → B ≤ W.heap.size → PrS W b B v ts n → ObjV (PO b B) W vo o → (∀ W', Below b W W' → Tab10 W') → Calls Tryz.prog 20 #[.pointer (some ⟨b, 0, none⟩), vo.val, .int .i64 ((d : Int) + 1)] W (AddPost b B v ts (addF f (d + 1) o n) W)) :
    Calls Tryz.prog 40 #[.pointer (some ⟨b, 0, none⟩), .agg #[.int .i64 7, .int .i64 i, .string ⟨t.toArray⟩, .slice A keys.length ck, .slice Bd kids.length cd], .int .i64 d] w (AddPost b B v ts (nestR 7 (kidsF (addF f (d + 1)) true keys kids n)) w) := by
  obtain ⟨Av, cv, rfl⟩ := own_form hp.own
  have HP := Lib.hid hp
  have HT := Lib.hid hT
  have HA := Lib.hid hA
  have HSl := Lib.hid hsl
  have HSm := Lib.hid hsm
  have HKid := Lib.hid hkid
  have HVl := Lib.hid hvl
  have HKk := Lib.hid hkk
  have HVo : Hid (∀ k, (Value.slice Av ts.length cv).ownBlock = some k → B ≤ k ∧ k < w.heap.size) := fun k hk => own_lt hp.own k hk
  obtain ⟨c0, c1, f0, f1, hlt⟩ := hp.cells
  have HG : Hid (∀ o n l m, addF f (d + 1) o n = .ok (l, m) → l.length + 1 + 3 * n ≤ 3 * m ∧ m ≤ 4096) := fun o n l m h => add_len f (d + 1) o n l m h
  obtain ⟨S, hS⟩ : ∃ S : ByteArray, S = ⟨t.toArray⟩ := ⟨_, rfl⟩
  rw [← hS]
  clear hp hT hA hsl hsm hkid hvl hkk hS
  have hpb := HP.out.alloc (.cells #[.int .i64 7, .int .i64 i, .string S, .slice A keys.length ck, .slice Bd kids.length cd] 25)
  have hbox : B5 (w.alloc (.cells #[.int .i64 7, .int .i64 i, .string S, .slice A keys.length ck, .slice Bd kids.length cd] 25)) w.heap.size ⟨.int .i64 7, .int .i64 i, .string S, .slice A keys.length ck, .slice Bd kids.length cd⟩ := Blk.new w _ _
  have hfb : FrS w.heap.size (TPr b (.slice Av ts.length cv)) w (w.alloc (.cells #[.int .i64 7, .int .i64 i, .string S, .slice A keys.length ck, .slice Bd kids.length cd] 25)) := (FrS.refl _ _ _).alloc (Nat.le_refl _) _
  have hs1 : w.heap.size + 1 = (w.alloc (.cells #[.int .i64 7, .int .i64 i, .string S, .slice A keys.length ck, .slice Bd kids.length cd] 25)).heap.size := by simp
  have HP1 := Lib.hid hpb
  have HF1 := Lib.hid hfb
  have HBx := Lib.hid hbox
  have HS1 := Lib.hid hs1
  clear hpb hfb hbox hs1
  go_enter Tryz.func40, Tryz.ntmps40
  go_upto_region 4 with (fail)
  generalize w.alloc (.cells #[.int .i64 7, .int .i64 i, .string S, .slice A keys.length ck, .slice Bd kids.length cd] 25) = w1 at *
  have hs1 := HS1.out
  obtain ⟨x0, x1, x2, x3, x4⟩ := b5_cells HBx.out
  obtain ⟨p0, p1, pf0, pf1, pl⟩ := HP1.out.cells
  clear c0 c1 f0 f1
  go_upto_region 5 with (at_builtin; go_must (refine wpList_pushk eTk rfl (.tmp 19) (.tmp 22) rfl B (.slice Av ts.length cv) ts.length _ rfl (HP1.out.alloc _).own ⟨w1.heap.size, 0, none⟩ 1 [.int .i64 8, .int .i64 0, .string ⟨#[]⟩, .int .i64 0, .int .i64 0] rfl rfl (news_new _ _ _ _ rfl) (by simp [Value.oneCell']) (by omega) (by omega) (by omega) (by simp; omega) ?_); go_must (intro v' w5 hown5 hgr5 hv5; have HO5 := Lib.hid hown5; have HG5 := Lib.hid hgr5; have HV5 := Lib.hid hv5; have hb5 := HP1.out.alloc (.cells #[.int .i64 8, .int .i64 0, .string ⟨#[]⟩, .int .i64 0, .int .i64 0] 53); have hb6 := hb5.blk.grown hgr5 (fun e => by have := (own_lt HP1.out.own _ e.symm).1; omega); have q0 := Blk.cell hb6 0; have qf := Blk.frozen hb6 0; have ql := hb6.lt; simp at q0; obtain ⟨A5, c5, rfl⟩ := own_form hown5; clear hown5 hgr5 hv5 hb5 hb6))
  have hpu := HP1.out.push hbB ⟨8, 0, []⟩ rfl HO5.out HG5.out HV5.out
  have HP2 := Lib.hid hpu.1
  have HV2 := Lib.hid hpu.2.2
  have hf2 := hpu.2.1
  have hs2 : w1.heap.size ≤ (w5.setCell ⟨b, 0, none⟩ (.slice A5 (ts.length + 1) c5)).heap.size := hf2.size
  have hbx2 := hf2.blk HBx.out (by omega) (fun e => e.elim (fun e => by omega) fun e => by have := HVo.out _ e; omega)
  have HBx2 : Hid (B5 (w5.setCell ⟨b, 0, none⟩ (.slice A5 (ts.length + 1) c5)) w.heap.size ⟨.int .i64 7, .int .i64 i, .string S, .slice A keys.length ck, .slice Bd kids.length cd⟩) := hbx2
  have HFr2 : Hid (FrS w.heap.size (TPr b (.slice Av ts.length cv)) w (w5.setCell ⟨b, 0, none⟩ (.slice A5 (ts.length + 1) c5))) := HF1.out.trans (hf2.weak (by omega) fun _ _ h => h)
  have HLt : Hid ((ts ++ [(⟨8, 0, []⟩ : BTok)]).length = ts.length + 1) := by unfold Hid; simp
  clear hpu hf2 hbx2 q0 qf ql x0 x1 x2 x3 x4 p0 p1 pf0 pf1
  generalize w5.setCell ⟨b, 0, none⟩ (.slice A5 (ts.length + 1) c5) = w2 at *
  obtain ⟨x0, x1, x2, x3, x4⟩ := b5_cells HBx2.out
  go_wp2_with fail
  have HR0 : Hid (kidsF (addF f (d + 1)) true keys kids n = kidR [] (kidsF (addF f (d + 1)) true (keys.drop 0) (kids.drop 0) n)) := by unfold Hid; rw [kidR_nil, List.drop_zero, List.drop_zero]
  generalize hR : kidsF (addF f (d + 1)) true keys kids n = R at *
  have HR := Lib.hid hR
  clear hR x0 x1 x2 x3 x4
  go_loopw [29] (fun v29 wq => True ∧ ∃ (j : Nat) (l : List BTok) (m : Nat) (Aq : Option Addr) (cq : Nat), v29 = .int .i64 j ∧ j ≤ kids.length ∧ R = kidR l (kidsF (addF f (d + 1)) true (keys.drop j) (kids.drop j) m) ∧ m ≤ 4096 ∧ l.length + 3 * n ≤ 3 * m ∧ PrS wq b B (.slice Aq (ts.length + 1 + l.length) cq) (ts ++ [⟨8, 0, []⟩] ++ l) m ∧
    B5 wq w.heap.size ⟨.int .i64 7, .int .i64 i, .string S, .slice A keys.length ck, .slice Bd kids.length cd⟩ ∧ FrS w.heap.size (TPr b (.slice Av ts.length cv)) w wq ∧ w.heap.size + 1 ≤ wq.heap.size ∧ ((Value.slice Aq (ts.length + 1 + l.length) cq).ownBlock = (Value.slice Av ts.length cv).ownBlock ∨ ∃ k, (Value.slice Aq (ts.length + 1 + l.length) cq).ownBlock = some k ∧ w.heap.size + 1 ≤ k)) (fun v29 _ => kids.length - (intOf v29).toNat)
  case atStart => exact ⟨trivial, 0, [], n, A5, c5, rfl, Nat.zero_le _, HR0.out, hn, by simp, by simpa using HP2.out, HBx2.out, HFr2.out, by omega, HV2.out.imp id fun ⟨k, h1, h2⟩ => ⟨k, h1, by omega⟩⟩
  case round =>
    obtain ⟨-, j, l, m, Aq, cq, rfl, hj, hr, hm, hll, hpr, hbx, hfr, hsz, hvq⟩ := hrel
    have HRj := Lib.hid hr
    have HPr := Lib.hid hpr
    have HBxr := Lib.hid hbx
    have HFr := Lib.hid hfr
    have HVq := Lib.hid hvq
    have HQo : Hid (∀ k, (Value.slice Aq (ts.length + 1 + l.length) cq).ownBlock = some k → B ≤ k ∧ k < wr.heap.size ∧ k ≠ w.heap.size) := fun k hk => by
      have h1 := own_lt hpr.own k hk
      refine ⟨h1.1, h1.2, fun e => ?_⟩
      rcases hvq with h | ⟨g, h, h3⟩
      · rw [h] at hk; have := HVo.out k hk; omega
      · rw [h] at hk; cases hk; omega
    have HLl : Hid ((ts ++ [(⟨8, 0, []⟩ : BTok)] ++ l).length = ts.length + 1 + l.length) := by unfold Hid; simp; omega
    obtain ⟨x0, x1, x2, x3, x4⟩ := b5_cells hbx
    obtain ⟨p0, p1, pf0, pf1, pl⟩ := hpr.cells
    clear hr hpr hbx hfr hvq
    by_cases hlt2 : j < kids.length
    · have hji : (j : Int) < (kids.length : Int) := by omega
      have hvj : j < vs.length := by rw [HVl.out]; exact hlt2
      obtain ⟨bd, od, hbd, hbP, hbw, hcl⟩ := v5_at (l := vs) (by rw [HVl.out]; exact HSm.out) (by omega)
      subst hbd
      obtain ⟨y0, y1, y2, y3, y4⟩ := hcl j hvj
      have hko := HKid.out j hlt2 hvj
      have HKo : Hid (ObjV (PO b B) wr vs[j] kids[j]) := hko.keep HFr.out.size fun k hk hl => HFr.out.block k hl fun e => e.elim (fun e => hk.2 e) fun e => by have := (HVo.out k e).1; have := hk.1; omega
      have hcellk : ∀ (p : Nat) (u : Value), w.cell? ⟨bd, p, none⟩ = some u → wr.cell? ⟨bd, p, none⟩ = some u := fun p u h => by
        rw [World.cell?_of_block (w := w) (a := ⟨bd, p, none⟩) (HFr.out.block bd hbw fun e => e.elim (fun e => hbP.2 e) fun e => by have := (HVo.out bd e).1; have := hbP.1; omega)]; exact h
      replace y0 := hcellk _ _ y0
      replace y1 := hcellk _ _ y1
      replace y2 := hcellk _ _ y2
      replace y3 := hcellk _ _ y3
      replace y4 := hcellk _ _ y4
      have HRs := HRj.out
      rw [List.drop_eq_getElem_cons hlt2] at HRs
      have HRs2 := Lib.hid HRs
      generalize vs[j] = vk at *
      generalize kids[j] = ok at *
      obtain ⟨kvk, dvk, usk, hvk, hslk, hsmk, -, -⟩ := HKo.out.open_
      obtain ⟨Ak, ckk, rfl⟩ := hslk.form
      obtain ⟨Adk, cdk, rfl⟩ := hsmk.form
      subst hvk
      dsimp only at y0 y1 y2 y3 y4
      generalize (strs ok.keys).length = n1 at *
      generalize hn2 : ok.kids.length = n2 at *
      generalize hk1 : ok.kind = k1 at *
      generalize hi1 : ok.int = i1 at *
      generalize ht1 : (⟨ok.text.toArray⟩ : ByteArray) = T2 at *
      clear hcl hko hcellk HRs hslk hsmk hn2 hk1 hi1 ht1
      have hbwr : bd < wr.heap.size := by have := HFr.out.size; omega
      go_upto_region 8 with (fail)
      have hf3 : FrS wr.heap.size (fun _ => False) wr (wr.alloc (.cells #[.int .i64 k1, .int .i64 i1, .string T2, .slice Ak n1 ckk, .slice Adk n2 cdk] 25)) := (FrS.refl _ _ _).alloc (Nat.le_refl _) _
      have HF3 := Lib.hid hf3
      have hs3 : wr.heap.size + 1 = (wr.alloc (.cells #[.int .i64 k1, .int .i64 i1, .string T2, .slice Ak n1 ckk, .slice Adk n2 cdk] 25)).heap.size := by simp
      have HKc := Lib.hid (Blk.new wr 25 #[.int .i64 k1, .int .i64 i1, .string T2, .slice Ak n1 ckk, .slice Adk n2 cdk])
      have HS3 := Lib.hid hs3
      clear hf3 hs3 x0 x1 x2 x3 x4 y0 y1 y2 y3 y4 p0 p1 pf0 pf1
      generalize wr.alloc (.cells #[.int .i64 k1, .int .i64 i1, .string T2, .slice Ak n1 ckk, .slice Adk n2 cdk] 25) = w3 at *
      have hs3 := HS3.out
      have HP3 := Lib.hid (HPr.out.fr HF3.out (Nat.le_refl _) (fun h => h) fun _ _ h => h)
      have HBx3 : Hid (B5 w3 w.heap.size ⟨.int .i64 7, .int .i64 i, .string S, .slice A keys.length ck, .slice (some ⟨bd, od, none⟩) kids.length cd⟩) := HF3.out.blk HBxr.out HBxr.out.lt (fun h => h)
      have HKo3 := Lib.hid (HKo.out.keep HF3.out.size fun k _ hl => HF3.out.block k hl (fun h => h))
      have HFr3 : Hid (FrS w.heap.size (TPr b (.slice Av ts.length cv)) w w3) := HFr.out.trans (HF3.out.weak (by omega) fun _ _ h => h.elim)
      obtain ⟨x0, x1, x2, x3, x4⟩ := b5_cells HBx3.out
      obtain ⟨p0, p1, pf0, pf1, pl3⟩ := HP3.out.cells
      obtain ⟨y0, y1, y2, y3, y4⟩ := b5n_cells HKc.out
      have hkcl := HKc.out.lt
      have hdi : IntKind.i64.wrap ((d : Int) + 1) = (d : Int) + 1 := IntWalk.i64_in _ (by omega)
      have hjk : j < keys.length := by have := HKk.out; omega
      have hjki : (j : Int) < (keys.length : Int) := by omega
      have hj0 : (0 : Int) ≤ (j : Int) := by omega
      obtain ⟨kb, ko, kc, hkv, hkP, hkb, hkc⟩ := Sl.plain HSl.out (by simp [strs]; omega)
      injection hkv with hkA hkl2 hkc2
      clear hkl2 hkc2
      subst hkA
      have hky := hkc j (.string ⟨(keys[j]).toArray⟩) (by simp [strs, hjk])
      obtain ⟨KY, hKY⟩ : ∃ KY : ByteArray, KY = ⟨(keys[j]).toArray⟩ := ⟨_, rfl⟩
      rw [← hKY] at hky
      have HKY := Lib.hid hKY
      have hky3 : w3.cell? ⟨kb, ko + j, none⟩ = some (.string KY) := by
        rw [World.cell?_of_block (w := w) (a := ⟨kb, ko + j, none⟩) (HFr3.out.block kb hkb fun e => e.elim (fun e => hkP.2 e) fun e => by have := (HVo.out kb e).1; have := hkP.1; omega)]; exact hky
      have hkb3 : kb < w3.heap.size := by have := HFr3.out.size; omega
      have hkne : kb ≠ b := hkP.2
      have hknB : kb < B := hkP.1
      have hS0 : (fun w' : World => w'.cell? ⟨b, 0, none⟩ = some (.slice Aq (ts.length + 1 + l.length) cq) ∧ w'.cell? ⟨w.heap.size, 3, none⟩ = some (.slice (some ⟨kb, ko, none⟩) keys.length ck) ∧ w'.cell? ⟨kb, ko + j, none⟩ = some (.string KY)) w3.drew := ⟨p0, x3, hky3⟩
      clear hkc hky hKY
      go_upto_region 9 with (fail)
      refine wp_region_tail (fun w' : World => w'.cell? ⟨b, 0, none⟩ = some (.slice Aq (ts.length + 1 + l.length) cq) ∧ w'.cell? ⟨w.heap.size, 3, none⟩ = some (.slice (some ⟨kb, ko, none⟩) keys.length ck) ∧ w'.cell? ⟨kb, ko + j, none⟩ = some (.string KY)) 13 (by kernel_rfl) (by kernel_rfl) hS0 (fun hHeld => ?_)
      refine wpAnyD_take 0 (v := ?_) rfl (by kernel_rfl) (by kernel_rfl) (by kernel_rfl) (fun _ _ _ h => h) hHeld (Or.inl ⟨by rfl, ?_⟩) ?_
      rotate_left
      · intro w' hw'; obtain ⟨h0, h1, h2⟩ := hw'; go_simp; try with_reducible rfl
      try simp only [Act.put, List.setIfInBounds_toArray, List.set_cons_zero, List.set_cons_succ]
      refine wpAnyD_take 1 (v := ?_) rfl (by kernel_rfl) (by kernel_rfl) (by kernel_rfl) (fun _ _ _ h => h) hHeld (Or.inl ⟨by rfl, ?_⟩) ?_
      rotate_left
      · intro w' hw'; obtain ⟨h0, h1, h2⟩ := hw'; go_simp; try with_reducible rfl
      try simp only [Act.put, List.setIfInBounds_toArray, List.set_cons_zero, List.set_cons_succ]
      refine wpAnyD_take 2 (v := ?_) rfl (by kernel_rfl) (by kernel_rfl) (by kernel_rfl) (fun _ _ _ h => h) hHeld (Or.inl ⟨by rfl, ?_⟩) ?_
      rotate_left
      · intro w' hw'; obtain ⟨h0, h1, h2⟩ := hw'; go_simp; try with_reducible rfl
      try simp only [Act.put, List.setIfInBounds_toArray, List.set_cons_zero, List.set_cons_succ]
      refine wpAnyD_take 3 (v := ?_) rfl (by kernel_rfl) (by kernel_rfl) (by kernel_rfl) (fun _ _ _ h => h) hHeld (Or.inl ⟨by rfl, ?_⟩) ?_
      rotate_left
      · intro w' hw'; obtain ⟨h0, h1, h2⟩ := hw'; go_simp; try with_reducible rfl
      try simp only [Act.put, List.setIfInBounds_toArray, List.set_cons_zero, List.set_cons_succ]
      refine wpAnyD_take 4 (v := ?_) rfl (by kernel_rfl) (by kernel_rfl) (by kernel_rfl) (fun _ _ _ h => h) hHeld (Or.inl ⟨by rfl, ?_⟩) ?_
      rotate_left
      · intro w' hw'; obtain ⟨h0, h1, h2⟩ := hw'; go_simp; try with_reducible rfl
      try simp only [Act.put, List.setIfInBounds_toArray, List.set_cons_zero, List.set_cons_succ]
      refine wpAnyD_take 5 (v := ?_) rfl (by kernel_rfl) (by kernel_rfl) (by kernel_rfl) (fun _ _ _ h => h) hHeld (Or.inl ⟨by rfl, ?_⟩) ?_
      rotate_left
      · intro w' hw'; obtain ⟨h0, h1, h2⟩ := hw'; go_simp; try with_reducible rfl
      try simp only [Act.put, List.setIfInBounds_toArray, List.set_cons_zero, List.set_cons_succ]
      refine wpAnyD_take 6 (v := ?_) rfl (by kernel_rfl) (by kernel_rfl) (by kernel_rfl) (fun _ _ _ h => h) hHeld (Or.inl ⟨by rfl, ?_⟩) ?_
      rotate_left
      · intro w' hw'; obtain ⟨h0, h1, h2⟩ := hw'; go_simp; try with_reducible rfl
      try simp only [Act.put, List.setIfInBounds_toArray, List.set_cons_zero, List.set_cons_succ]
      refine wpAnyD_take 7 (v := ?_) rfl (by kernel_rfl) (by kernel_rfl) (by kernel_rfl) (fun _ _ _ h => h) hHeld (Or.inl ⟨by rfl, ?_⟩) ?_
      rotate_left
      · intro w' hw'; obtain ⟨h0, h1, h2⟩ := hw'; go_simp; try with_reducible rfl
      try simp only [Act.put, List.setIfInBounds_toArray, List.set_cons_zero, List.set_cons_succ]
      refine wpAnyD_take 8 (v := ?_) rfl (by kernel_rfl) (by kernel_rfl) (by kernel_rfl) (fun _ _ _ h => h) hHeld (Or.inl ⟨by rfl, ?_⟩) ?_
      rotate_left
      · intro w' hw'; obtain ⟨h0, h1, h2⟩ := hw'; go_simp; try with_reducible rfl
      try simp only [Act.put, List.setIfInBounds_toArray, List.set_cons_zero, List.set_cons_succ]
      refine wpAnyD_take 9 (v := ?_) rfl (by kernel_rfl) (by kernel_rfl) (by kernel_rfl) (fun _ _ _ h => h) hHeld (Or.inl ⟨by rfl, ?_⟩) ?_
      rotate_left
      · intro w' hw'; obtain ⟨h0, h1, h2⟩ := hw'; go_simp; try with_reducible rfl
      try simp only [Act.put, List.setIfInBounds_toArray, List.set_cons_zero, List.set_cons_succ]
      refine wpAnyD_take 10 (v := ?_) rfl (by kernel_rfl) (by kernel_rfl) (by kernel_rfl) (fun _ _ _ h => h) hHeld (Or.inl ⟨by rfl, ?_⟩) ?_
      rotate_left
      · intro w' hw'; obtain ⟨h0, h1, h2⟩ := hw'; go_simp; try with_reducible rfl
      try simp only [Act.put, List.setIfInBounds_toArray, List.set_cons_zero, List.set_cons_succ]
      refine wpAnyD_ready [11] (by kernel_rfl) ?_
      refine AllReadyD.cons rfl (fun K hK => ?_) AllReadyD.nil
      go_simp
      have hS1 : (fun w' : World => w'.cell? ⟨b, 0, none⟩ = some (.slice Aq (ts.length + 1 + l.length) cq) ∧ w'.cell? ⟨w.heap.size, 3, none⟩ = some (.slice (some ⟨kb, ko, none⟩) keys.length ck) ∧ w'.cell? ⟨kb, ko + j, none⟩ = some (.string KY)) (w3.drew.alloc (.cells #[.int .i64 2, .int .i64 0, .string KY, .int .i64 0, .int .i64 0] 53)) := ⟨(cell_lt _ _ _ pl3).trans p0, (cell_lt _ _ _ HBx3.out.lt).trans x3, (cell_lt _ _ _ hkb3).trans hky3⟩
      refine hK.out _ _ hS1 (fun hHeld => ?_)
      have HPd : Hid (PrS w3.drew b B (.slice Aq (ts.length + 1 + l.length) cq) (ts ++ [⟨8, 0, []⟩] ++ l) m) := HP3.out.fr (FrS.refl w3.heap.size (fun _ => False) w3).drew (Nat.le_refl _) (fun h => h) fun _ _ h => h
      have HPo : Hid (w3.drew.ownsRow B 53 5 (.slice Aq (ts.length + 1 + l.length) cq) (ts.length + 1 + l.length) (toksC ((ts ++ [(⟨8, 0, []⟩ : BTok)] ++ l).map tk0))) := by have := HPd.out.own; rw [HLl.out] at this; exact this
      refine wpAnyD_ready [12] (by kernel_rfl) ?_
      refine AllReadyD.cons rfl (fun K hK => ?_) AllReadyD.nil
      refine step_pushk eTk rfl (.tmp 41) (.tmp 48) rfl B (.slice Aq (ts.length + 1 + l.length) cq) (ts.length + 1 + l.length) _ rfl (own_frs HPo.out ((FrS.refl w3.drew.heap.size (fun _ => False) w3.drew).alloc (Nat.le_refl _) _) (Nat.le_refl _) (fun _ h => h.elim)) ⟨w3.heap.size, 0, none⟩ 1 [.int .i64 2, .int .i64 0, .string KY, .int .i64 0, .int .i64 0] rfl rfl (news_new _ _ _ _ rfl) (by simp [Value.oneCell']) (by omega) (by omega) (by omega) (by simp; omega) ?_
      intro g5 c5' w5 hown5 hgr5 hv5
      have HO5' := Lib.hid hown5
      have HG5' := Lib.hid hgr5
      have HV5' : Hid ((Value.slice (some ⟨g5, 0, none⟩) (ts.length + 1 + l.length + 1) c5').ownBlock = (Value.slice Aq (ts.length + 1 + l.length) cq).ownBlock ∨ (Value.slice (some ⟨g5, 0, none⟩) (ts.length + 1 + l.length + 1) c5').ownBlock = some (w3.drew.alloc (.cells #[.int .i64 2, .int .i64 0, .string KY, .int .i64 0, .int .i64 0] 53)).heap.size) := hv5.imp (fun h => h) fun h => congrArg some h
      have hb5 := HPd.out.alloc (.cells #[.int .i64 2, .int .i64 0, .string KY, .int .i64 0, .int .i64 0] 53)
      have hb6 := hb5.blk.grown hgr5 (fun e => by have := (HQo.out _ e.symm).1; omega)
      have hbb := ((Blk.drew HBx3.out).alloc (.cells #[.int .i64 2, .int .i64 0, .string KY, .int .i64 0, .int .i64 0] 53)).grown hgr5 (fun e => (HQo.out _ e.symm).2.2 rfl)
      have q0 := Blk.cell hb6 0
      have qf := Blk.frozen hb6 0
      have ql := hb6.lt
      simp at q0
      obtain ⟨r0, r1, r2, r3, r4⟩ := b5n_cells hbb
      have hky5 : w5.cell? ⟨kb, ko + j, none⟩ = some (.string KY) := by
        rw [World.cell?_of_block (a := ⟨kb, ko + j, none⟩) (hgr5.block kb (by simp; omega) fun e => by have := (HQo.out _ e.symm).1; omega)]; exact (cell_lt _ _ _ hkb3).trans hky3
      refine hK.out _ _ ⟨q0, r3, hky5⟩ (fun hHeld => ?_)
      refine wpAnyD_done (by kernel_rfl) ?_
      simp only [List.drop_succ_cons, List.drop_zero]
      have hkcb := ((Blk.drew HKc.out).alloc (.cells #[.int .i64 2, .int .i64 0, .string KY, .int .i64 0, .int .i64 0] 53)).grown hgr5 (fun e => by have := (HQo.out _ e.symm).2.1; omega)
      have HKc5 := Lib.hid hkcb
      clear hS0 hS1 hHeld hK p0 p1 x0 x1 x2 x3 x4 y0 y1 y2 y3 y4 hown5 hgr5 hv5 hb5 hb6 hbb hkcb r0 r1 r2 r3 r4 hky3 hky5
      go_upto_region 10 with (fail)
      have hpu := HPd.out.push (v' := .slice (some ⟨g5, 0, none⟩) (ts.length + 1 + l.length + 1) c5') hbB ⟨2, 0, keys[j]⟩ rfl (by have h := HO5'.out; rw [HKY.out] at h; rw [HLl.out]; exact h) HG5'.out (by have h := HV5'.out; exact h)
      have HP4 := Lib.hid hpu.1
      have HV4 := Lib.hid hpu.2.2
      have hf4' := hpu.2.1
      have hf4 : FrS w3.heap.size (TPr b (.slice Aq (ts.length + 1 + l.length) cq)) w3 (w5.setCell ⟨b, 0, none⟩ (.slice (some ⟨g5, 0, none⟩) (ts.length + 1 + l.length + 1) c5')) := ⟨hf4'.os, hf4'.tape, hf4'.output, hf4'.size, hf4'.block⟩
      have hs4 : w3.heap.size ≤ (w5.setCell ⟨b, 0, none⟩ (.slice (some ⟨g5, 0, none⟩) (ts.length + 1 + l.length + 1) c5')).heap.size := hf4.size
      have hbx4 : B5 (w5.setCell ⟨b, 0, none⟩ (.slice (some ⟨g5, 0, none⟩) (ts.length + 1 + l.length + 1) c5')) w.heap.size ⟨.int .i64 7, .int .i64 i, .string S, .slice (some ⟨kb, ko, none⟩) keys.length ck, .slice (some ⟨bd, od, none⟩) kids.length cd⟩ := hf4.blk HBx3.out (by omega) (fun e => e.elim (fun e => by omega) fun e => (HQo.out _ e).2.2 rfl)
      have hko4 := HKo3.out.keep hf4.size fun k hk hl => hf4.block k hl fun e => e.elim (fun e => hk.2 e) fun e => by have := (HQo.out k e).1; have := hk.1; omega
      have hkc4 := hf4.blk HKc.out HKc.out.lt (fun e => e.elim (fun e => by omega) fun e => by have := (HQo.out _ e).2.1; omega)
      have HFr4 : Hid (FrS w.heap.size (TPr b (.slice Av ts.length cv)) w (w5.setCell ⟨b, 0, none⟩ (.slice (some ⟨g5, 0, none⟩) (ts.length + 1 + l.length + 1) c5'))) := HFr3.out.trans (hf4.weak (by omega) fun q h1 h2 => h2.elim (fun e => .inl e) fun e => by
        rcases HVq.out with h | ⟨g, h, h3⟩
        · rw [h] at e; exact .inr e
        · rw [h] at e; cases e; omega)
      have HBx4 := Lib.hid hbx4
      have HKo4 := Lib.hid hko4
      have HKc4 := Lib.hid hkc4
      clear hpu hf4' hf4 hbx4 hko4 hkc4 q0 qf ql
      generalize w5.setCell ⟨b, 0, none⟩ (.slice (some ⟨g5, 0, none⟩) (ts.length + 1 + l.length + 1) c5') = w4 at *
      have HVq4 : Hid ((Value.slice (some ⟨g5, 0, none⟩) (ts.length + 1 + l.length + 1) c5').ownBlock = (Value.slice Av ts.length cv).ownBlock ∨ ∃ k, (Value.slice (some ⟨g5, 0, none⟩) (ts.length + 1 + l.length + 1) c5').ownBlock = some k ∧ w.heap.size + 1 ≤ k) := by
        rcases HV4.out with h | ⟨g, h, h3⟩
        · rw [Hid, h]; exact HVq.out
        · exact .inr ⟨g, h, by have h4 : w3.heap.size ≤ g := h3; omega⟩
      have HQo4 : Hid (∀ k, (Value.slice (some ⟨g5, 0, none⟩) (ts.length + 1 + l.length + 1) c5').ownBlock = some k → B ≤ k ∧ k < w4.heap.size ∧ k ≠ w.heap.size) := fun k hk => by
        have h1 := own_lt HP4.out.own k hk
        refine ⟨h1.1, h1.2, fun e => ?_⟩
        rcases HVq4.out with h | ⟨g, h, h3⟩
        · rw [h] at hk; have := HVo.out k hk; omega
        · rw [h] at hk; cases hk; omega
      have HLk : Hid ((ts ++ [(⟨8, 0, []⟩ : BTok)] ++ l ++ [(⟨2, 0, keys[j]⟩ : BTok)]).length = ts.length + 1 + l.length + 1) := by unfold Hid; simp; omega
      obtain ⟨x0, x1, x2, x3, x4⟩ := b5_cells HBx4.out
      obtain ⟨y0, y1, y2, y3, y4⟩ := b5n_cells HKc4.out
      obtain ⟨p0, p1, pf0, pf1, pl4⟩ := HP4.out.cells
      have hkcl4 := HKc4.out.lt
      have HAd := Lib.hid (HA.out ok ⟨.int .i64 k1, .int .i64 i1, .string T2, .slice Ak n1 ckk, .slice Adk n2 cdk⟩ (.slice (some ⟨g5, 0, none⟩) (ts.length + 1 + l.length + 1) c5') (ts ++ [⟨8, 0, []⟩] ++ l ++ [(⟨2, 0, keys[j]⟩ : BTok)]) m w4 hm (by rw [HLk.out]; omega) (by omega) HP4.out HKo4.out (fun W' hW => HT.out W' ((tpr_below HFr4.out (by omega) fun q hq => by have := HVo.out q hq; omega).trans hW)))
      unfold V5.val at HAd
      dsimp only at HAd
      generalize hga : addF f (d + 1) ok m = ra at *
      have HGa := Lib.hid hga
      clear hga
      go_wp2_with fail
      refine HAd.out.mono ?_
      rintro e w6 ⟨hf6, hq6⟩
      have hs6 := hf6.size
      have HFr6 : Hid (FrS w.heap.size (TPr b (.slice Av ts.length cv)) w w6) := HFr4.out.trans (hf6.weak (by omega) fun q h1 h2 => h2.elim (fun e => .inl e) fun e => by
        rcases HVq4.out with h | ⟨g, h, h3⟩
        · rw [h] at e; exact .inr e
        · rw [h] at e; cases e; omega)
      have HBx6 : Hid (B5 w6 w.heap.size ⟨.int .i64 7, .int .i64 i, .string S, .slice (some ⟨kb, ko, none⟩) keys.length ck, .slice (some ⟨bd, od, none⟩) kids.length cd⟩) := hf6.blk HBx4.out HBx4.out.lt (fun e => e.elim (fun e => by omega) fun e => (HQo4.out _ e).2.2 rfl)
      clear hf6 HAd
      cases ra with
      | error er =>
        obtain ⟨h1, rfl⟩ := hq6
        have H1 := Lib.hid h1
        have he1 : (er != 0) = true := by simpa using h1
        have HRe : Hid (R = .error er) := by have := HRs2.out; rw [kid_err HGa.out] at this; exact this
        clear h1
        go_wp2_with fail
        go_ret
        refine ⟨HFr6.out, ?_⟩
        rw [HRe.out]
        exact ⟨H1.out, rfl⟩
      | ok lm =>
        obtain ⟨l1, m1⟩ := lm
        obtain ⟨rfl, v6, h1, h2⟩ := hq6
        obtain ⟨A6, c6, rfl⟩ := own_form h1.own
        have HP6 := Lib.hid h1
        have HV6 := Lib.hid h2
        obtain ⟨g1, g2⟩ := HG.out _ _ _ _ HGa.out
        have HRe : Hid (R = kidR (l ++ ([(⟨2, 0, keys[j]⟩ : BTok)] ++ l1)) (kidsF (addF f (d + 1)) true (keys.drop (j + 1)) (kids.drop (j + 1)) m1)) := by
          have := HRs2.out
          rw [kid_ok HGa.out, kidR_kidR] at this
          unfold Hid; rw [this]
          rw [List.drop_eq_getElem_cons hjk]; rfl
        clear h1 h2
        go_wp2_with fail
        refine ⟨⟨trivial, j + 1, l ++ ([(⟨2, 0, keys[j]⟩ : BTok)] ++ l1), m1, A6, c6, rfl, by omega, HRe.out, g2, by simp; omega, ?_, HBx6.out, HFr6.out, by omega, ?_⟩, by simp [intOf]; omega⟩
        · have := HP6.out
          have hl : (ts ++ [(⟨8, 0, []⟩ : BTok)] ++ l ++ [(⟨2, 0, keys[j]⟩ : BTok)] ++ l1).length = ts.length + 1 + (l ++ ([(⟨2, 0, keys[j]⟩ : BTok)] ++ l1)).length := by simp; omega
          rw [← hl, show ts ++ [(⟨8, 0, []⟩ : BTok)] ++ (l ++ ([(⟨2, 0, keys[j]⟩ : BTok)] ++ l1)) = ts ++ [⟨8, 0, []⟩] ++ l ++ [(⟨2, 0, keys[j]⟩ : BTok)] ++ l1 by simp]; exact this
        · have hl : (ts ++ [(⟨8, 0, []⟩ : BTok)] ++ l ++ [(⟨2, 0, keys[j]⟩ : BTok)] ++ l1).length = ts.length + 1 + (l ++ ([(⟨2, 0, keys[j]⟩ : BTok)] ++ l1)).length := by simp; omega
          rw [← hl]
          rcases HV6.out with h | ⟨g, h, h3⟩
          · rw [h]; rcases HVq4.out with h' | ⟨g, h', h3⟩
            · exact .inl h'
            · exact .inr ⟨g, h', by omega⟩
          · exact .inr ⟨g, h, by omega⟩
    · have hjj : j = kids.length := by omega
      have hji : ¬ (j : Int) < (kids.length : Int) := by omega
      have HRe : Hid (R = .ok (l, m)) := by
        have := HRj.out
        rw [show kids.drop j = [] from List.drop_eq_nil_of_le (by omega)] at this
        unfold Hid; rw [this]; simp [kidsF, kidR]
      clear hjj
      go_upto_region 15 with (at_builtin; go_must (refine wpList_pushk eTk rfl (.tmp 65) (.tmp 68) rfl B (.slice Aq (ts.length + 1 + l.length) cq) (ts.length + 1 + l.length) _ rfl (own_frs (by have := HPr.out.own; rw [HLl.out] at this; exact this) ((FrS.refl wr.heap.size (fun _ => False) wr).alloc (Nat.le_refl _) _) (Nat.le_refl _) (fun _ h => h.elim)) ⟨wr.heap.size, 0, none⟩ 1 [.int .i64 9, .int .i64 0, .string ⟨#[]⟩, .int .i64 0, .int .i64 0] rfl rfl (news_new _ _ _ _ rfl) (by simp [Value.oneCell']) (by omega) (by omega) (by omega) (by simp; omega) ?_); go_must (intro v' w5 hown5 hgr5 hv5; have HO5 := Lib.hid hown5; have HG5 := Lib.hid hgr5; have HV5 := Lib.hid hv5; have hb5 := HPr.out.alloc (.cells #[.int .i64 9, .int .i64 0, .string ⟨#[]⟩, .int .i64 0, .int .i64 0] 53); have hb6 := hb5.blk.grown hgr5 (fun e => by have := (own_lt HPr.out.own _ e.symm).1; omega); have q0 := Blk.cell hb6 0; have qf := Blk.frozen hb6 0; have ql := hb6.lt; simp at q0; obtain ⟨A5, c5, rfl⟩ := own_form hown5; clear hown5 hgr5 hv5 hb5 hb6))
      have hpu := HPr.out.push hbB ⟨9, 0, []⟩ rfl (by rw [HLl.out]; exact HO5.out) HG5.out HV5.out
      have HP7 := Lib.hid hpu.1
      have HV7 := Lib.hid hpu.2.2
      have HFr7 : Hid (FrS w.heap.size (TPr b (.slice Av ts.length cv)) w (w5.setCell ⟨b, 0, none⟩ (.slice A5 (ts.length + 1 + l.length + 1) c5))) := HFr.out.trans (hpu.2.1.weak (by omega) fun q h1 h2 => h2.elim (fun e => .inl e) fun e => by
        rcases HVq.out with h | ⟨g, h, h3⟩
        · rw [h] at e; exact .inr e
        · rw [h] at e; cases e; omega)
      clear hpu q0 qf ql x0 x1 x2 x3 x4 p0 p1 pf0 pf1
      generalize w5.setCell ⟨b, 0, none⟩ (.slice A5 (ts.length + 1 + l.length + 1) c5) = w7 at *
      go_wp2_with fail
      go_ret
      refine ⟨HFr7.out, ?_⟩
      rw [HRe.out]
      refine ⟨rfl, _, (by have := HP7.out; simpa [nestR] using this), ?_⟩
      rcases HV7.out with h | ⟨g, h, h3⟩
      · rw [h]; exact HVq.out.imp id fun ⟨g, h, h3⟩ => ⟨g, h, by omega⟩
      · exact .inr ⟨g, h, by omega⟩
/-- add, at whatever depth. -/
theorem add_any (b B : Nat) (hbB : b < B) : ∀ (f d : Nat), f + d = 13 → ∀ (o : Ox) (vo : V5) (v : Value) (ts : List BTok) (n : Nat) (w : World), n ≤ 4096 → ts.length ≤ 3 * n + 2 * d → B ≤ w.heap.size → PrS w b B v ts n → ObjV (PO b B) w vo o → (∀ W, Below b w W → Tab10 W) →
    Calls Tryz.prog 20 #[.pointer (some ⟨b, 0, none⟩), vo.val, .int .i64 d] w (AddPost b B v ts (addF f d o n) w)
  | 0, d, hfd, o, vo, v, ts, n, w, hn, hts, hB, hp, ho, hT => add_step 0 d hfd b B hbB o vo v ts n hn hts w hB hp ho hT fun _ _ h => absurd h (by omega)
  | f + 1, d, hfd, o, vo, v, ts, n, w, hn, hts, hB, hp, ho, hT => add_step (f + 1) d hfd b B hbB o vo v ts n hn hts w hB hp ho hT fun W hk _ hne hn1 hBW hpW hoW hTW => by
      have hA : ∀ (o : Ox) (vo : V5) (v : Value) (ts : List BTok) (n : Nat) (W : World), n ≤ 4096 → ts.length ≤ 3 * n + 2 * (d + 1) → B ≤ W.heap.size → PrS W b B v ts n → ObjV (PO b B) W vo o → (∀ W', Below b W W' → Tab10 W') → Calls Tryz.prog 20 #[.pointer (some ⟨b, 0, none⟩), vo.val, .int .i64 ((d : Int) + 1)] W (AddPost b B v ts (addF f (d + 1) o n) W) := fun o vo v ts n W h1 h2 h3 h4 h5 h6 => by
        have := add_any b B hbB f (d + 1) (by omega) o vo v ts n W h1 h2 h3 h4 h5 h6
        rwa [show ((d + 1 : Nat) : Int) = (d : Int) + 1 by omega] at this
      have hkd := (nodeE_zero hne).2.1
      have hkl := kids_le hne
      have hkq := kids_eq hne
      obtain ⟨kv, dv, vs, rfl, h1, h2, h3, h4⟩ := hoW.open_
      obtain ⟨A, ck, rfl⟩ := h1.form
      obtain ⟨Bd, cd, rfl⟩ := h2.form
      obtain ⟨k, i, t, keys, kids⟩ := o
      dsimp only [Ox.kind, Ox.int, Ox.text, Ox.keys, Ox.kids] at *
      have hsl : (strs keys).length = keys.length := by simp [strs]
      rw [hsl] at h1
      unfold V5.val
      dsimp only
      rw [hsl]
      have hk' : k = 6 ∨ k = 7 := by omega
      rcases hk' with rfl | rfl
      · exact nested_k6 f d hfd b B hbB i t keys kids A Bd ck cd vs v ts (n + 1) hn1 (by omega) W hBW hpW h1 h2 h3 h4 hTW hkl hA
      · exact nested_k7 f d hfd b B hbB i t keys kids A Bd ck cd vs v ts (n + 1) hn1 (by omega) W hBW hpW h1 h2 h3 h4 hTW hkl (hkq rfl) hA
end Go.Proofs.YthbdhijkdldmoaaGreatDoor
