/- The walk of the parser's cond at level 3: not, parentheses, a comparison. -/
import Derived.Test.YtonmpealebggoaaGreatDoorPrpCp
import Derived.Test.YtonmpealebggoaaGreatDoorPrpPlain
namespace Go.Proofs.YtonmpealebggoaaGreatDoor
open Go.RowKit Pr
/-- The contract of cond with work f. -/
def CnAt (S : ByteArray) (K f : Nat) : Prop := ∀ (least : Nat) (s : St) (w : World), 1 ≤ least → least ≤ 3 → PsM S K s w → TabK K w → 3 * stLen s + (3 - least) < f →
  Calls Tryz.prog 28 #[.pointer (some ⟨K, 0, none⟩), .int .i64 least] w (CmPost S K (pCond f least s) w)
theorem slm_blk {W : World} {g : Nat} {t : TypeId} {P : Nat → Prop} (l : List V5) (h : Blk W g t (v5cs l).toArray) (hp : P g) (hn : l.length ≤ maxLen) : SlM W P (.slice (some ⟨g, 0, none⟩) l.length l.length) l.length (v5cs l) :=
  ⟨_, l.length, rfl, Nat.le_refl _, hn, fun _ => ⟨g, 0, rfl, hp, h.lt, fun k u hu => by rw [Nat.zero_add, h.cell k]; simpa using hu⟩⟩
theorem cdv_not {W : World} {g : Nat} {t : TypeId} {P : Nat → Prop} {v : V5} {c : Cd} (h : Blk W g t #[v.k, v.t, v.c, v.n, v.d]) (hp : P g) (hv : CdV P W v c) :
    CdV P W ⟨.int .i64 1, .slice none 0 0, .int .i64 0, .int .i64 0, .slice (some ⟨g, 0, none⟩) 1 1⟩ (.mk 1 [] 0 0 [c]) :=
  CdV.mk 1 [] 0 0 [c] _ _ [v] (SlM.nil _ _) (slm_blk [v] h hp (by simp [maxLen])) rfl (fun j h1 h2 => by
    match j, h1 with
    | 0, _ => exact hv) (fun t ht => by cases ht) (by unfold I64; omega)
theorem cdv_two {W : World} {g : Nat} {t : TypeId} {P : Nat → Prop} {v u : V5} {c d : Cd} (kd : Int) (hk : I64 kd) (h : Blk W g t #[v.k, v.t, v.c, v.n, v.d, u.k, u.t, u.c, u.n, u.d]) (hp : P g) (hv : CdV P W v c) (hu : CdV P W u d) :
    CdV P W ⟨.int .i64 kd, .slice none 0 0, .int .i64 0, .int .i64 0, .slice (some ⟨g, 0, none⟩) 2 2⟩ (.mk kd [] 0 0 [c, d]) :=
  CdV.mk kd [] 0 0 [c, d] _ _ [v, u] (SlM.nil _ _) (slm_blk [v, u] h hp (by simp [maxLen])) rfl (fun j h1 h2 => by
    match j, h1 with
    | 0, _ => exact hv
    | 1, _ => exact hu) (fun t ht => by cases ht) hk
/-- The last steps: a condition is stored in the result and handed back. -/
theorem cond_end {S : ByteArray} {K R : Nat} {w W : World} {v : V5} {c : Cd} {s2 : St} {k t' c' n' d' : Value} (hR : w.heap.size = R) (hf : FrS R (fun k => k = K) w W) (hb : Blk W R 25 #[k, t', c', n', d']) (hc : CdV (fun b => R + 1 ≤ b) W v c) (hp : PsM S K s2 W) (hK : K < R) :
    w.grownBy (put5 W R v) (some K) ∧ CdV (fun b => R ≤ b) (put5 W R v) v c ∧ PsM S K s2 (put5 W R v) ∧ B5 (put5 W R v) R v := by
  subst hR
  have hf13 := put5_frs (FrS.refl W.heap.size (fun k => k = w.heap.size) W) (g := w.heap.size) (.inr rfl) v
  exact ⟨(put5_frs hf (.inl (Nat.le_refl _)) v).to fun _ h => h, (hf13.cdv hc (fun b hb hlt => ⟨hlt, by omega⟩)).mono fun b _ hb => by omega, hf13.psm hp hp.lt (by omega), b5_put (v := ⟨k, t', c', n', d'⟩) hb v⟩
theorem put5_alloc {w : World} {R : Nat} (h : R < w.heap.size) (o : Obj) (u : V5) : put5 (w.alloc o) R u = (put5 w R u).alloc o := by
  unfold put5
  rw [World.setCell_alloc_past o R 0 _ h, World.setCell_alloc_past o R 1 _ (by simpa [World.setCell] using h), World.setCell_alloc_past o R 2 _ (by simpa [World.setCell] using h), World.setCell_alloc_past o R 3 _ (by simpa [World.setCell] using h), World.setCell_alloc_past o R 4 _ (by simpa [World.setCell] using h)]
set_option maxRecDepth 100000 in
set_option maxHeartbeats 8000000 in
theorem cond_not (S : ByteArray) (K f : Nat) (HC : CnAt S K f) (s : St) (w : World) (h1 : s.1 = wNot) (h : PsM S K s w) (hs : S.size ≤ 4096) (hT : TabK K w) (hf : 3 * stLen s < f + 1) :
    Calls Tryz.prog 28 #[.pointer (some ⟨K, 0, none⟩), .int .i64 3] w (CmPost S K (pCond (f + 1) 3 s) w) := by
  have hl := h.lt
  have hsl : stLen (lexW s.2) < stLen s := step_len (by rw [h1]; simp [wNot])
  have HQ : Hid (pCond (f + 1) 3 s = match pCond f 3 (lexW s.2) with | none => none | some (c, s2) => some (.mk 1 [] 0 0 [c], s2)) := by
    obtain ⟨a, b⟩ := s
    subst h1
    exact pCond_not f b
  generalize pCond (f + 1) 3 s = Q at *
  have HF := Lib.hid ((FrS.refl w.heap.size (fun k => k = K) w).alloc (Nat.le_refl _) (.cells #[.int .i64 0, .slice none 0 0, .int .i64 0, .int .i64 0, .slice none 0 0] 25))
  have HR := Lib.hid (Blk.new w 25 #[.int .i64 0, .slice none 0 0, .int .i64 0, .int .i64 0, .slice none 0 0])
  have HT := Lib.hid (HF.out.tab (K := K) (Nat.le_of_lt hl) (fun k e => by omega) hT)
  have HP := Lib.hid (h.alloc (.cells #[.int .i64 0, .slice none 0 0, .int .i64 0, .int .i64 0, .slice none 0 0] 25))
  obtain ⟨a1, ha1, q0, q1, q2⟩ := h.opens
  have u1 : ((Bs s.1).toList == [110, 111, 116]) = true := by rw [h1, Lib.toList_data]; decide
  generalize Bs s.1 = WD at *
  have HNx := Lib.hid (HP.out.next hs)
  clear h hT h1
  go_enter Tryz.func28, Tryz.ntmps28
  go_wp2_with fail
  refine HNx.out.mono ?_
  rintro e w2 ⟨rfl, hp, hg⟩
  have HF2 := Lib.hid (HF.out.grown hg (by simp) (.inr rfl))
  have HR2 := Lib.hid (HR.out.gr hg (by omega))
  have HT2 := Lib.hid (HT.out.below ⟨hg.os, hg.tape, hg.output, hg.size, fun k hk => hg.block k (by simp; omega) (by simp; omega)⟩)
  have HCa := Lib.hid (HC 3 (lexW s.2) w2 (by omega) (by omega) hp HT2.out (by omega))
  have hs2 := HR2.out.lt
  generalize pCond f 3 (lexW s.2) = PC at *
  clear hp hg HNx HP HF HR HT HC q0 q1 q2
  go_wp2_with fail
  refine HCa.out.mono ?_
  rintro e w3 ⟨hg, hq, hp⟩
  have HF3 := Lib.hid (HF2.out.grown hg HF2.out.size (.inr rfl))
  have HR3 := Lib.hid (HR2.out.gr hg (by omega))
  have hs3 := hg.size
  clear hg HCa HF2 HR2
  cases hc : PC with
  | none =>
    obtain ⟨a2, ha2, rfl⟩ := hp hc
    have HQn := Lib.hid (show Q = none by rw [HQ.out, hc])
    clear hp hq hc
    go_wp2_with fail
    exact ⟨rfl, HF3.out.to fun _ h => h, fun r hr => (by rw [HQn.out] at hr; cases hr), fun _ => ⟨a2, ha2, rfl⟩⟩
  | some x =>
    obtain ⟨c, s2⟩ := x
    obtain ⟨v, rfl, hcd, hps⟩ := hq _ hc
    have HQs := Lib.hid (show Q = some (.mk 1 [] 0 0 [c], s2) by rw [HQ.out, hc])
    have HCd := Lib.hid hcd
    have HPs := Lib.hid hps
    obtain ⟨tv, dv, vs, rfl, ht, hd, -⟩ := hcd.open_
    obtain ⟨A1, c1, rfl⟩ := ht.form
    obtain ⟨A2, c2, rfl⟩ := hd.form
    clear hcd hps ht hd hp hq hc
    dsimp only [V5.val] at *
    have HB4 := Lib.hid (Blk.new w3 25 #[.int .i64 c.kind, .slice A1 c.terms.length c1, .int .i64 c.cmp, .int .i64 c.than, .slice A2 c.kids.length c2])
    have HCd4 := Lib.hid (cdv_not (P := fun b => w.heap.size + 1 ≤ b) HB4.out (by omega) ((HCd.out.alloc (.cells #[.int .i64 c.kind, .slice A1 c.terms.length c1, .int .i64 c.cmp, .int .i64 c.than, .slice A2 c.kids.length c2] 25)).mono fun b _ hb => by omega))
    have HX := Lib.hid (cond_end (S := S) rfl (HF3.out.alloc (by omega) (.cells #[.int .i64 c.kind, .slice A1 c.terms.length c1, .int .i64 c.cmp, .int .i64 c.than, .slice A2 c.kids.length c2] 25)) (HR3.out.alloc _) HCd4.out (HPs.out.alloc _) hl)
    obtain ⟨y0, y1, y2, y3, y4⟩ := b5_cells HR3.out
    obtain ⟨yf0, yf1, yf2, yf3, yf4⟩ : w3.frozen? ⟨w.heap.size, 0, none⟩ = false ∧ w3.frozen? ⟨w.heap.size, 1, none⟩ = false ∧ w3.frozen? ⟨w.heap.size, 2, none⟩ = false ∧ w3.frozen? ⟨w.heap.size, 3, none⟩ = false ∧ w3.frozen? ⟨w.heap.size, 4, none⟩ = false := ⟨Blk.frozen HR3.out 0, Blk.frozen HR3.out 1, Blk.frozen HR3.out 2, Blk.frozen HR3.out 3, Blk.frozen HR3.out 4⟩
    have yl := HR3.out.lt
    clear HB4 HCd4 HCd HPs
    go_wp2_with fail
    rw [put5_alloc yl] at HX
    clear y0 y1 y2 y3 y4 yf0 yf1 yf2 yf3 yf4 yl
    unfold put5 at HX
    dsimp only at HX
    generalize World.alloc _ _ = w12 at *
    obtain ⟨k0, k1, k2, k3, k4⟩ := b5_cells HX.out.2.2.2
    refine bodyPost_ret (v := .agg #[.int .i64 1, .slice none 0 0, .int .i64 0, .int .i64 0, .slice (some ⟨w3.heap.size, 0, none⟩) 1 1]) (by simp [results, Tryz.results28, go_sem, k0, k1, k2, k3, k4]) rfl ?_
    exact ⟨HX.out.1, fun r hr => (by rw [HQs.out] at hr; cases hr; exact ⟨_, rfl, HX.out.2.1, HX.out.2.2.1⟩), fun hr => (by rw [HQs.out] at hr; cases hr)⟩
set_option maxRecDepth 100000 in
set_option maxHeartbeats 8000000 in
theorem cond_par (S : ByteArray) (K f : Nat) (HC : CnAt S K f) (s : St) (w : World) (h1 : s.1 = [40]) (h : PsM S K s w) (hs : S.size ≤ 4096) (hT : TabK K w) (hf : 3 * stLen s < f + 1) :
    Calls Tryz.prog 28 #[.pointer (some ⟨K, 0, none⟩), .int .i64 3] w (CmPost S K (pCond (f + 1) 3 s) w) := by
  have hl := h.lt
  have hsl : stLen (lexW s.2) < stLen s := step_len (by rw [h1]; simp)
  have HQ : Hid (pCond (f + 1) 3 s = match pCond f 1 (lexW s.2) with
    | none => none
    | some (c, s2) => match pWant [41] s2 with | none => none | some s3 => some (c, s3)) := by
    obtain ⟨a, b⟩ := s
    subst h1
    exact pCond_par f b
  generalize pCond (f + 1) 3 s = Q at *
  have HF := Lib.hid ((FrS.refl w.heap.size (fun k => k = K) w).alloc (Nat.le_refl _) (.cells #[.int .i64 0, .slice none 0 0, .int .i64 0, .int .i64 0, .slice none 0 0] 25))
  have HR := Lib.hid (Blk.new w 25 #[.int .i64 0, .slice none 0 0, .int .i64 0, .int .i64 0, .slice none 0 0])
  have HT := Lib.hid (HF.out.tab (K := K) (Nat.le_of_lt hl) (fun k e => by omega) hT)
  have HP := Lib.hid (h.alloc (.cells #[.int .i64 0, .slice none 0 0, .int .i64 0, .int .i64 0, .slice none 0 0] 25))
  obtain ⟨a1, ha1, q0, q1, q2⟩ := h.opens
  have u1 : ((Bs s.1).toList == [110, 111, 116]) = false := by rw [h1, Lib.toList_data]; decide
  have u2 : ((Bs s.1).toList == [40]) = true := by rw [h1, Lib.toList_data]; decide
  generalize Bs s.1 = WD at *
  have HNx := Lib.hid (HP.out.next hs)
  clear h hT h1
  go_enter Tryz.func28, Tryz.ntmps28
  go_wp2_with fail
  refine HNx.out.mono ?_
  rintro e w2 ⟨rfl, hp, hg⟩
  have HF2 := Lib.hid (HF.out.grown hg (by simp) (.inr rfl))
  have HR2 := Lib.hid (HR.out.gr hg (by omega))
  have HT2 := Lib.hid (HT.out.below ⟨hg.os, hg.tape, hg.output, hg.size, fun k hk => hg.block k (by simp; omega) (by simp; omega)⟩)
  have HCa := Lib.hid (HC 1 (lexW s.2) w2 (by omega) (by omega) hp HT2.out (by omega))
  have hs2 := HR2.out.lt
  generalize pCond f 1 (lexW s.2) = PC at *
  clear hp hg HNx HP HF HR HT HC q0 q1 q2
  go_wp2_with fail
  refine HCa.out.mono ?_
  rintro e w3 ⟨hg, hq, hp⟩
  have HF3 := Lib.hid (HF2.out.grown hg HF2.out.size (.inr rfl))
  have HR3 := Lib.hid (HR2.out.gr hg (by omega))
  have hs3 := hg.size
  clear hg HCa HF2 HR2
  cases hc : PC with
  | none =>
    obtain ⟨a2, ha2, rfl⟩ := hp hc
    have HQn := Lib.hid (show Q = none by rw [HQ.out, hc])
    clear hp hq hc
    go_wp2_with fail
    exact ⟨rfl, HF3.out.to fun _ h => h, fun r hr => (by rw [HQn.out] at hr; cases hr), fun _ => ⟨a2, ha2, rfl⟩⟩
  | some x =>
    obtain ⟨c, s2⟩ := x
    obtain ⟨v, rfl, hcd, hps⟩ := hq _ hc
    have HQ2 := Lib.hid (show Q = match pWant [41] s2 with | none => none | some s3 => some (c, s3) by rw [HQ.out, hc])
    have HCd := Lib.hid hcd
    have HPs := Lib.hid hps
    obtain ⟨tv, dv, vs, rfl, ht, hd, -⟩ := hcd.open_
    obtain ⟨A1, c1, rfl⟩ := ht.form
    obtain ⟨A2, c2, rfl⟩ := hd.form
    clear hcd hps ht hd hp hq hc HQ
    dsimp only [V5.val] at *
    have HB4 := Lib.hid (Blk.new w3 25 #[.int .i64 c.kind, .slice A1 c.terms.length c1, .int .i64 c.cmp, .int .i64 c.than, .slice A2 c.kids.length c2])
    have HCd4 := Lib.hid ((HCd.out.alloc (.cells #[.int .i64 c.kind, .slice A1 c.terms.length c1, .int .i64 c.cmp, .int .i64 c.than, .slice A2 c.kids.length c2] 25)).mono (Q := fun b => w.heap.size + 1 ≤ b) fun b _ hb => by omega)
    have HF4 := Lib.hid (HF3.out.alloc (by omega) (.cells #[.int .i64 c.kind, .slice A1 c.terms.length c1, .int .i64 c.cmp, .int .i64 c.than, .slice A2 c.kids.length c2] 25))
    have HR4 := Lib.hid (HR3.out.alloc (.cells #[.int .i64 c.kind, .slice A1 c.terms.length c1, .int .i64 c.cmp, .int .i64 c.than, .slice A2 c.kids.length c2] 25))
    have HWa := Lib.hid (want_any S K s2 [41] _ (HPs.out.alloc (.cells #[.int .i64 c.kind, .slice A1 c.terms.length c1, .int .i64 c.cmp, .int .i64 c.than, .slice A2 c.kids.length c2] 25)) hs)
    have hB5 : (Bs [41] : ByteArray) = ⟨#[41]⟩ := rfl
    rw [hB5] at HWa
    have hl3 : K < w3.heap.size := by omega
    have hg3 : w.heap.size < w3.heap.size := by omega
    clear HCd HPs HF3 HR3 hB5
    generalize hk0 : c.kind = k0 at *
    generalize c.terms.length = n1 at *
    generalize c.kids.length = n2 at *
    generalize c.cmp = k2 at *
    generalize c.than = k3 at *
    clear hk0
    go_wp2_with fail
    generalize hw4 : w3.alloc (.cells #[.int .i64 k0, .slice A1 n1 c1, .int .i64 k2, .int .i64 k3, .slice A2 n2 c2] 25) = w4 at *
    have hs4 : w4.heap.size = w3.heap.size + 1 := by rw [← hw4]; simp
    clear hw4
    refine HWa.out.mono ?_
    rintro e w5 ⟨hg, hq, hp⟩
    have hf5 : FrS w4.heap.size (fun k => k = K) w4 w5 := ⟨hg.os, hg.tape, hg.output, hg.size, fun k hk hn => hg.block k hk (by simp; exact hn)⟩
    have HF5 := Lib.hid (HF4.out.grown hg (by omega) (.inr rfl))
    have HR5 := Lib.hid (HR4.out.gr hg (by omega))
    have HB5 := Lib.hid (HB4.out.gr hg (by omega))
    have HCd5 := Lib.hid (hf5.cdv HCd4.out fun b hb hlt => ⟨hlt, by omega⟩)
    clear hf5 HF4 HR4 HB4 HCd4 hg HWa
    cases hw : pWant [41] s2 with
    | none =>
      obtain ⟨a2, ha2, rfl⟩ := hp hw
      have HQn := Lib.hid (show Q = none by rw [HQ2.out, hw])
      clear hp hq hw
      go_wp2_with fail
      exact ⟨rfl, HF5.out.to fun _ h => h, fun r hr => (by rw [HQn.out] at hr; cases hr), fun _ => ⟨a2, ha2, rfl⟩⟩
    | some s3 =>
      obtain ⟨rfl, hps⟩ := hq _ hw
      have HQs := Lib.hid (show Q = some (c, s3) by rw [HQ2.out, hw])
      have HX := Lib.hid (cond_end (S := S) rfl HF5.out HR5.out HCd5.out hps hl)
      clear hp hq hw hps
      obtain ⟨y0, y1, y2, y3, y4⟩ := b5_cells HR5.out
      obtain ⟨yf0, yf1, yf2, yf3, yf4⟩ : w5.frozen? ⟨w.heap.size, 0, none⟩ = false ∧ w5.frozen? ⟨w.heap.size, 1, none⟩ = false ∧ w5.frozen? ⟨w.heap.size, 2, none⟩ = false ∧ w5.frozen? ⟨w.heap.size, 3, none⟩ = false ∧ w5.frozen? ⟨w.heap.size, 4, none⟩ = false := ⟨Blk.frozen HR5.out 0, Blk.frozen HR5.out 1, Blk.frozen HR5.out 2, Blk.frozen HR5.out 3, Blk.frozen HR5.out 4⟩
      have yl := HR5.out.lt
      obtain ⟨x0, x1, x2, x3, x4⟩ := b5_cells HB5.out
      have xl := HB5.out.lt
      have hne : w3.heap.size ≠ w.heap.size := by omega
      go_wp2_with fail
      clear y0 y1 y2 y3 y4 yf0 yf1 yf2 yf3 yf4 yl x0 x1 x2 x3 x4 xl
      unfold put5 at HX
      dsimp only at HX
      generalize World.setCell _ _ _ = w12 at *
      obtain ⟨k0, k1, k2, k3, k4⟩ := b5_cells HX.out.2.2.2
      refine bodyPost_ret (v := .agg #[_, _, _, _, _]) (by simp [results, Tryz.results28, go_sem, k0, k1, k2, k3, k4]; exact ⟨rfl, rfl, rfl, rfl, rfl⟩) rfl ?_
      exact ⟨HX.out.1, fun r hr => (by rw [HQs.out] at hr; cases hr; exact ⟨_, rfl, HX.out.2.1, HX.out.2.2.1⟩), fun hr => (by rw [HQs.out] at hr; cases hr)⟩
set_option maxRecDepth 100000 in
set_option maxHeartbeats 8000000 in
theorem cond_cmp (S : ByteArray) (K f : Nat) (s : St) (w : World) (h1 : s.1 ≠ wNot) (h2 : s.1 ≠ [40]) (h : PsM S K s w) (hs : S.size ≤ 4096) (hT : TabK K w) :
    Calls Tryz.prog 28 #[.pointer (some ⟨K, 0, none⟩), .int .i64 3] w (CmPost S K (pCond (f + 1) 3 s) w) := by
  have hl := h.lt
  rw [pCond_cmp f s h1 h2]
  have HF := Lib.hid ((FrS.refl w.heap.size (fun k => k = K) w).alloc (Nat.le_refl _) (.cells #[.int .i64 0, .slice none 0 0, .int .i64 0, .int .i64 0, .slice none 0 0] 25))
  have HR := Lib.hid (Blk.new w 25 #[.int .i64 0, .slice none 0 0, .int .i64 0, .int .i64 0, .slice none 0 0])
  have HT := Lib.hid (HF.out.tab (K := K) (Nat.le_of_lt hl) (fun k e => by omega) hT)
  have HP := Lib.hid (h.alloc (.cells #[.int .i64 0, .slice none 0 0, .int .i64 0, .int .i64 0, .slice none 0 0] 25))
  have HCa := Lib.hid (cmpP_any S K s _ HP.out hs HT.out)
  obtain ⟨a1, ha1, q0, q1, q2⟩ := h.opens
  have u1 : ((Bs s.1).toList == [110, 111, 116]) = false := by rw [Lib.toList_data]; simpa [wNot] using h1
  have u2 : ((Bs s.1).toList == [40]) = false := by rw [Lib.toList_data]; simpa using h2
  generalize Bs s.1 = WD at *
  generalize pCompare s = Q at *
  clear h hT h1 h2 HP HT
  go_enter Tryz.func28, Tryz.ntmps28
  go_wp2_with fail
  refine HCa.out.mono ?_
  rintro e w3 ⟨hg, hq, hp⟩
  have HF3 := Lib.hid (HF.out.grown hg (by simp) (.inr rfl))
  have HR3 := Lib.hid (HR.out.gr hg (by omega))
  have hs3 : w.heap.size + 1 ≤ w3.heap.size := by have := hg.size; simpa using this
  clear hg HCa HF HR
  cases hc : Q with
  | none =>
    obtain ⟨a2, ha2, rfl⟩ := hp hc
    clear hp hq hc
    go_wp2_with fail
    exact ⟨rfl, HF3.out.to fun _ h => h, fun r hr => (by cases hr), fun _ => ⟨a2, ha2, rfl⟩⟩
  | some x =>
    obtain ⟨c, s2⟩ := x
    obtain ⟨v, rfl, hcd, hps⟩ := hq _ hc
    have HQs := Lib.hid hc
    have HCd := Lib.hid (hcd.mono (Q := fun b => w.heap.size + 1 ≤ b) fun b _ hb => by simpa using hb)
    have HX := Lib.hid (cond_end (S := S) rfl HF3.out HR3.out HCd.out hps hl)
    obtain ⟨tv, dv, vs, rfl, ht, hd, -⟩ := hcd.open_
    obtain ⟨A1, c1, rfl⟩ := ht.form
    obtain ⟨A2, c2, rfl⟩ := hd.form
    clear hcd hps ht hd hp hq hc HCd
    dsimp only [V5.val] at *
    obtain ⟨y0, y1, y2, y3, y4⟩ := b5_cells HR3.out
    obtain ⟨yf0, yf1, yf2, yf3, yf4⟩ : w3.frozen? ⟨w.heap.size, 0, none⟩ = false ∧ w3.frozen? ⟨w.heap.size, 1, none⟩ = false ∧ w3.frozen? ⟨w.heap.size, 2, none⟩ = false ∧ w3.frozen? ⟨w.heap.size, 3, none⟩ = false ∧ w3.frozen? ⟨w.heap.size, 4, none⟩ = false := ⟨Blk.frozen HR3.out 0, Blk.frozen HR3.out 1, Blk.frozen HR3.out 2, Blk.frozen HR3.out 3, Blk.frozen HR3.out 4⟩
    have yl := HR3.out.lt
    go_wp2_with fail
    clear y0 y1 y2 y3 y4 yf0 yf1 yf2 yf3 yf4 yl
    unfold put5 at HX
    dsimp only at HX
    generalize World.setCell _ _ _ = w12 at *
    obtain ⟨k0, k1, k2, k3, k4⟩ := b5_cells HX.out.2.2.2
    refine bodyPost_ret (v := .agg #[_, _, _, _, _]) (by simp [results, Tryz.results28, go_sem, k0, k1, k2, k3, k4]; exact ⟨rfl, rfl, rfl, rfl, rfl⟩) rfl ?_
    exact ⟨HX.out.1, fun r hr => (by rw [HQs.out] at hr; cases hr; exact ⟨_, rfl, HX.out.2.1, HX.out.2.2.1⟩), fun hr => (by rw [HQs.out] at hr; cases hr)⟩
end Go.Proofs.YtonmpealebggoaaGreatDoor
