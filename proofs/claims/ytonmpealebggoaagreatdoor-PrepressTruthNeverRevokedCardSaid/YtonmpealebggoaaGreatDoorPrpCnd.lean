/- The map of kinds to numbers of kids, as cond makes it; counting plainly. The walk of cond: the first error of a condition, and how many were met. -/
import Derived.Test.YtonmpealebggoaaGreatDoorPrpCmp
import Derived.Test.YtonmpealebggoaaGreatDoorArcMap
import Derived.Lib.BufferOwn
namespace Go.Proofs.YtonmpealebggoaaGreatDoor
open Go.RowKit Pr
open Go.Maps (Keyed)
theorem lawI : Keyed Tryz.prog 3 := Maps.int_keyed Tryz.underlying3
theorem keyI (k : Int) (h : I64 k) : keyOf Tryz.prog 3 (.int .i64 k) = some (.int .i64 k) := by
  refine Maps.keyOf_int_mk Tryz.underlying3 ?_
  obtain ⟨h1, h2⟩ := h
  simp only [Lit.wf, Bool.and_eq_true, decide_eq_true_eq]
  have e1 : IntKind.min .i64 = -9223372036854775808 := rfl
  have e2 : IntKind.max .i64 = 9223372036854775807 := rfl
  omega
/-- How many kids a kind has. -/
def kidsN (k : Int) : Int := if k = 1 then 1 else if k = 2 ∨ k = 3 then 2 else 0
def nestB (k : Int) : Bool := decide (1 ≤ k ∧ k ≤ 3)
theorem sameKey_int (a b : Int) (h : I64 b) : (Lit.int .i64 a).sameKey (.int .i64 b) = decide (a = b) := by
  rw [Bool.eq_iff_iff, WideAt.sameKey_iff (lawI.key (keyI b h))]
  simp
theorem kids_map (w : World) : ∃ wa wb wc,
    (Instr.mapUpdate 97 (.map (some w.heap.size)) (.int .i64 1) (.int .i64 1)).run Tryz.prog (w.alloc (.map #[] 0)) = .ok () wa ∧
    (Instr.mapUpdate 97 (.map (some w.heap.size)) (.int .i64 2) (.int .i64 2)).run Tryz.prog wa = .ok () wb ∧
    (Instr.mapUpdate 97 (.map (some w.heap.size)) (.int .i64 3) (.int .i64 2)).run Tryz.prog wb = .ok () wc ∧
    (∀ k : Int, I64 k → (Instr.lookup 97 (.map (some w.heap.size)) (.int .i64 k) true).run Tryz.prog wc = .ok (.tuple #[.int .i64 (kidsN k), .bool (nestB k)]) wc) ∧ Below w.heap.size w wc := by
  have m0 := MapV.made w Tryz.prog 3
  obtain ⟨wa, ra, ma, ga⟩ := m0.put lawI Tryz.underlying97 (by unfold maxLen; omega) (keyI 1 (by unfold I64; omega)) (.int .i64 1)
  obtain ⟨wb, rb, mb, gb⟩ := ma.put lawI Tryz.underlying97 (by unfold maxLen; omega) (keyI 2 (by unfold I64; omega)) (.int .i64 2)
  obtain ⟨wc, rc, mc, gc⟩ := mb.put lawI Tryz.underlying97 (by unfold maxLen; omega) (keyI 3 (by unfold I64; omega)) (.int .i64 2)
  refine ⟨wa, wb, wc, ra, rb, rc, fun k hk => ?_, ?_⟩
  · have hz : (zeroValue 3).run Tryz.prog wc = .ok (.int .i64 0) wc := Tryz.zeroValue3 wc
    have := (mc.look lawI Tryz.underlying97 hz (keyI k hk)).2
    rw [this]
    have e3 := sameKey_int k 3 (by unfold I64; omega)
    have e2 := sameKey_int k 2 (by unfold I64; omega)
    have e1 := sameKey_int k 1 (by unfold I64; omega)
    rw [e3, e2, e1]
    clear e1 e2 e3 this
    unfold kidsN nestB
    by_cases h3 : k = 3
    · subst h3; rfl
    by_cases h2 : k = 2
    · subst h2; rfl
    by_cases h1 : k = 1
    · subst h1; rfl
    rw [decide_eq_false h3, decide_eq_false h2, decide_eq_false h1, if_neg h1, if_neg (show ¬ (k = 2 ∨ k = 3) by omega), decide_eq_false (show ¬ (1 ≤ k ∧ k ≤ 3) by omega)]; rfl
  · have hB := (Below.refl w.heap.size w).alloc (Nat.le_refl _) (.map #[] 0)
    exact ((hB.grown ga (by simp) (fun k hk => by injection hk with hk; omega)).grown gb (by have := ga.size; simp at this; omega) (fun k hk => by injection hk with hk; omega)).grown gc (by have := ga.size; have := gb.size; simp at *; omega) (fun k hk => by injection hk with hk; omega)
theorem condF_le : ∀ (f n : Nat) (o : Cd), (condF f n o).1 = 0 → (condF f n o).2 ≤ 256
  | 0, n, o, h => by unfold condF at h; dsimp only at h; split at h <;> simp at h
  | f + 1, n, o, h => by
    have kid : ∀ (l : List Cd) (m : Nat), m ≤ 256 → (kidsF (condF f) m l).1 = 0 → (kidsF (condF f) m l).2 ≤ 256 := fun l => by
      induction l with
      | nil => intro m hm _; exact hm
      | cons k r ih =>
        intro m hm h
        unfold kidsF at h ⊢
        by_cases h0 : (condF f m k).1 ≠ 0
        · rw [if_pos h0] at h; exact absurd h h0
        · rw [if_neg h0] at h ⊢
          exact ih _ (condF_le f m k (by simpa using h0)) h
    unfold condF at h ⊢
    by_cases h1 : 256 < n + 1
    · rw [if_pos h1] at h; simp at h
    rw [if_neg h1] at h ⊢
    by_cases c1 : o.kind = 0
    · rw [if_pos c1]; show n + 1 ≤ 256; omega
    rw [if_neg c1] at h ⊢
    by_cases c2 : o.kind < 1 ∨ 3 < o.kind
    · rw [if_pos c2]; show n + 1 ≤ 256; omega
    rw [if_neg c2] at h ⊢
    by_cases c3 : 0 < o.terms.length ∨ o.cmp ≠ 0 ∨ o.than ≠ 0 ∨ (o.kids.length : Int) ≠ (if o.kind = 1 then 1 else 2)
    · rw [if_pos c3]; show n + 1 ≤ 256; omega
    rw [if_neg c3] at h ⊢
    exact kid _ _ (by omega) h
end Go.Proofs.YtonmpealebggoaaGreatDoor
namespace Go.Proofs.YtonmpealebggoaaGreatDoor
open Go.RowKit Pr
def cd0 : Cd := .mk 0 [] 0 0 []
def v50 : V5 := ⟨.nilIface, .nilIface, .nilIface, .nilIface, .nilIface⟩
theorem kid_at {P : Nat → Prop} {w : World} {vs : List V5} {ks : List Cd} (hl : vs.length = ks.length) (h : ∀ j (h : j < ks.length) (h2 : j < vs.length), CdV P w vs[j] ks[j]) (j : Nat) (hj : j < ks.length) : CdV P w (vs.getD j v50) (ks.getD j cd0) := by
  rw [List.getD_eq_getElem?_getD, List.getElem?_eq_getElem (show j < vs.length by omega), List.getD_eq_getElem?_getD, List.getElem?_eq_getElem hj]
  exact h j hj (by omega)
theorem CdV.grown {P : Nat → Prop} {w w' : World} {v : V5} {o : Cd} {K : Nat} (h : CdV P w v o) (hg : w.grownBy w' (some K)) (hK : ¬ P K) : CdV P w' v o :=
  h.keep hg.size fun b hb hl => hg.block b hl fun e => by injection e with e; exact hK (e ▸ hb)
theorem kidsF_step (g : Nat → Cd → Int × Nat) {l : List Cd} {i : Nat} (n : Nat) (hi : i < l.length) : kidsF g n (l.drop i) = if (g n (l.getD i cd0)).1 ≠ 0 then g n (l.getD i cd0) else kidsF g (g n (l.getD i cd0)).2 (l.drop (i + 1)) := by
  rw [List.drop_eq_getElem_cons hi, List.getD_eq_getElem?_getD, List.getElem?_eq_getElem hi]; rfl
def CondAt (f : Nat) : Prop := ∀ (o : Cd) (v : V5) (P : Nat → Prop) (K n : Nat) (w : World), CdV P w v o → ¬ P K → Row w K [.int .i64 (n : Int)] → n ≤ 256 →
    Calls Tryz.prog 32 #[.pointer (some ⟨K, 0, none⟩), v.val, .int .i64 ((13 : Int) - f)] w fun e w' => e = .returned (.int .i64 (condF f n o).1) ∧ Row w' K [.int .i64 ((condF f n o).2 : Int)] ∧ w.grownBy w' (some K)
set_option maxRecDepth 100000 in
set_option maxHeartbeats 4000000 in
theorem cond_step (f : Nat) (hf : f ≤ 12) (IH : ∀ g, f = g + 1 → CondAt g) : CondAt f := by
  intro o v P K n w h hK hr hn
  obtain ⟨tv, dv, vs, rfl, ht, hd, hvl, hkid, hz, hw⟩ := h.open_
  have HC := Lib.hid h
  clear h
  obtain ⟨k, ts, c, m, ks⟩ := o
  dsimp only [Cd.kind, Cd.terms, Cd.cmp, Cd.than, Cd.kids, V5.val] at *
  obtain ⟨tA, tc, rfl⟩ := ht.form
  obtain ⟨dA, dc, rfl⟩ := hd.form
  have q0 := hr.at_ (i := 0) (by simp)
  have f0 := hr.free 0 (by simp)
  have l0 := hr.lt
  simp only [List.getElem_cons_zero] at q0
  have HR1 := Lib.hid ((hr.put (k := 0) (by simp) (.int .i64 ((n : Int) + 1))).alloc (.cells #[Value.int .i64 k, Value.slice tA ts.length tc, Value.int .i64 c, Value.int .i64 m, Value.slice dA ks.length dc] 25))
  have HG1 := Lib.hid (Lib.grownBy_allocR (Lib.grownBy_setCell w K 0 (.int .i64 ((n : Int) + 1))) (.cells #[Value.int .i64 k, Value.slice tA ts.length tc, Value.int .i64 c, Value.int .i64 m, Value.slice dA ks.length dc] 25))
  generalize hE : condF f n (.mk k ts c m ks) = E at *
  by_cases c1 : 256 < n + 1
  · have t1 : decide ((n : Int) + 1 > 256) = true := by simp; omega
    have HE : Hid (E = (2, n + 1)) := by
      subst hE
      cases f with
      | zero => show (if 256 < n + 1 then (2 : Int) else 15, n + 1) = _; rw [if_pos c1]
      | succ f => exact if_pos c1
    clear hE ht hd hkid hz hr
    generalize ts.length = tn at *
    generalize ks.length = kn at *
    go_enter Tryz.func32, Tryz.ntmps32
    go_wp2_with fail
    go_ret
    exact ⟨by rw [HE.out]; rfl, by rw [HE.out]; exact HR1.out, HG1.out⟩
  have t1 : decide ((n : Int) + 1 > 256) = false := by simp; omega
  by_cases c2 : f = 0
  · have t2 : decide ((13 : Int) - (f : Int) > 12) = true := by simp; omega
    have HE : Hid (E = (15, n + 1)) := by
      subst hE; subst c2
      show (if 256 < n + 1 then (2 : Int) else 15, n + 1) = _; rw [if_neg c1]
    clear hE ht hd hkid hz hr c2
    generalize ts.length = tn at *
    generalize ks.length = kn at *
    go_enter Tryz.func32, Tryz.ntmps32
    go_wp2_with fail
    go_ret
    exact ⟨by rw [HE.out]; rfl, by rw [HE.out]; exact HR1.out, HG1.out⟩
  obtain ⟨g, rfl⟩ : ∃ g, f = g + 1 := ⟨f - 1, by omega⟩
  have t2 : decide ((13 : Int) - ((g : Int) + 1) > 12) = false := by simp; omega
  have HI := Lib.hid (IH g rfl)
  have HE : Hid (E = if k = 0 then (compareE (.mk k ts c m ks), n + 1) else if k < 1 ∨ 3 < k then (14, n + 1)
    else if 0 < ts.length ∨ c ≠ 0 ∨ m ≠ 0 ∨ (ks.length : Int) ≠ (if k = 1 then 1 else 2) then (4, n + 1) else kidsF (condF g) (n + 1) ks) := by subst hE; exact if_neg c1
  have HT := Lib.hid ht
  have HD := Lib.hid hd
  have HKd := Lib.hid (kid_at hvl hkid)
  clear hE ht hd hkid hz hr IH
  generalize htn : ts.length = tn at *
  generalize hkn : ks.length = kn at *
  have HTn := Lib.hid htn
  have HKn := Lib.hid hkn
  clear htn hkn
  have hBox := fun j => World.cell?_alloc_at (w := w.setCell ⟨K, 0, none⟩ (.int .i64 ((n : Int) + 1))) #[Value.int .i64 k, Value.slice tA tn tc, Value.int .i64 c, Value.int .i64 m, Value.slice dA kn dc] 25 w.heap.size j (by simp [World.setCell])
  have hWs : ((w.setCell ⟨K, 0, none⟩ (.int .i64 ((n : Int) + 1))).alloc (.cells #[Value.int .i64 k, Value.slice tA tn tc, Value.int .i64 c, Value.int .i64 m, Value.slice dA kn dc] 25)).heap.size = w.heap.size + 1 := by simp [World.setCell]
  have hmm := @run_makeMap Tryz.prog
  obtain ⟨wa, wb, wc, ra, rb, rc, rl, hbc⟩ := kids_map ((w.setCell ⟨K, 0, none⟩ (.int .i64 ((n : Int) + 1))).alloc (.cells #[Value.int .i64 k, Value.slice tA tn tc, Value.int .i64 c, Value.int .i64 m, Value.slice dA kn dc] 25))
  rw [hWs] at ra rb rc
  have rl2 := rl k hw
  rw [hWs] at rl2 hbc
  have b0 := (hbc.cell (p := ⟨w.heap.size, 0, none⟩) (by simp)).trans (hBox 0)
  have b1 := (hbc.cell (p := ⟨w.heap.size, 1, none⟩) (by simp)).trans (hBox 1)
  have b2 := (hbc.cell (p := ⟨w.heap.size, 2, none⟩) (by simp)).trans (hBox 2)
  have b3 := (hbc.cell (p := ⟨w.heap.size, 3, none⟩) (by simp)).trans (hBox 3)
  have b4 := (hbc.cell (p := ⟨w.heap.size, 4, none⟩) (by simp)).trans (hBox 4)
  have HG := Lib.hid (Lib.grownBy_below HG1.out (by rw [hWs]; exact hbc))
  have HR := Lib.hid (HR1.out.below hbc (by omega))
  clear rl hbc hBox hWs
  rw [show (13 : Int) - ((g + 1 : Nat) : Int) = 13 - ((g : Int) + 1) by omega]
  go_enter Tryz.func32, Tryz.ntmps32
  by_cases d0 : k = 0
  · have u0 : (k == 0) = true := by rw [beq_iff_eq]; omega
    have HV := Lib.hid (show E = (compareE (.mk k ts c m ks), n + 1) by rw [HE.out, if_pos d0])
    have HCo := Lib.hid (compare_any _ _ P wc (HC.out.grown HG.out hK))
    generalize compareE (.mk k ts c m ks) = ce at *
    clear d0
    go_wp2_with fail
    refine HCo.out.mono ?_; rintro e w5 ⟨rfl, hb5⟩
    have HG5 := Lib.hid (Lib.grownBy_below HG.out hb5)
    have HR5 := Lib.hid (HR.out.below hb5 HR.out.lt)
    clear hb5
    go_wp2_with fail
    go_ret
    exact ⟨by rw [HV.out]; rfl, by rw [HV.out]; exact HR5.out, HG5.out⟩
  have u0 : (k == 0) = false := by rw [beq_eq_false_iff_ne]; omega
  by_cases d1 : k < 1 ∨ 3 < k
  · have u1 : nestB k = false := decide_eq_false (by omega)
    have HV := Lib.hid (show E = (14, n + 1) by rw [HE.out, if_neg d0, if_pos d1])
    go_wp2_with fail
    go_ret
    exact ⟨by rw [HV.out]; rfl, by rw [HV.out]; exact HR.out, HG.out⟩
  have u1 : nestB k = true := decide_eq_true (by omega)
  by_cases d2 : 0 < tn
  · have u2 : decide (0 < tn) = true := by simp; omega
    have HV := Lib.hid (show E = (4, n + 1) by rw [HE.out, if_neg d0, if_neg d1, if_pos (.inl d2)])
    go_wp2_with fail
    go_ret
    exact ⟨by rw [HV.out]; rfl, by rw [HV.out]; exact HR.out, HG.out⟩
  have u2 : decide (0 < tn) = false := by simp; omega
  by_cases d3 : c ≠ 0
  · have u3 : (c != 0) = true := by simp; omega
    have HV := Lib.hid (show E = (4, n + 1) by rw [HE.out, if_neg d0, if_neg d1, if_pos (.inr (.inl d3))])
    go_wp2_with fail
    go_ret
    exact ⟨by rw [HV.out]; rfl, by rw [HV.out]; exact HR.out, HG.out⟩
  have u3 : (c != 0) = false := by simp; omega
  by_cases d4 : m ≠ 0
  · have u4 : (m != 0) = true := by simp; omega
    have HV := Lib.hid (show E = (4, n + 1) by rw [HE.out, if_neg d0, if_neg d1, if_pos (.inr (.inr (.inl d4)))])
    go_wp2_with fail
    go_ret
    exact ⟨by rw [HV.out]; rfl, by rw [HV.out]; exact HR.out, HG.out⟩
  have u4 : (m != 0) = false := by simp; omega
  have hkk : kidsN k = if k = 1 then 1 else 2 := by unfold kidsN; split; rfl; rw [if_pos (by omega)]
  by_cases d5 : (kn : Int) ≠ kidsN k
  · have u5 : ((kn : Int) != kidsN k) = true := by simp; omega
    have HV := Lib.hid (show E = (4, n + 1) by rw [HE.out, if_neg d0, if_neg d1, if_pos (.inr (.inr (.inr (by rw [← hkk]; exact d5))))])
    clear hkk
    go_wp2_with fail
    go_ret
    exact ⟨by rw [HV.out]; rfl, by rw [HV.out]; exact HR.out, HG.out⟩
  have u5 : ((kn : Int) != kidsN k) = false := by simp; omega
  have HE2 := Lib.hid (show E = kidsF (condF g) (n + 1) (ks.drop 0) by rw [HE.out, if_neg d0, if_neg d1, if_neg (by rw [← hkk]; omega)]; rfl)
  have hk2 : kn ≤ 2 := by unfold kidsN at *; split at hkk <;> omega
  clear HE hkk d0 d1 d2 d3 d4 d5
  go_wp2_with fail
  clear ra rb rc rl2 b0 b1 b2 b3 b4 hmm u0 u1 u2 u3 u4 u5 t1 q0 f0
  go_loopw [11, 12, 70] (fun _ _ v70 wr => ∃ i j : Nat, i ≤ kn ∧ j ≤ 256 ∧ v70 = .int .i64 i ∧ E = kidsF (condF g) j (ks.drop i) ∧ Row wr K [.int .i64 (j : Int)] ∧ w.grownBy wr (some K)) (fun _ _ v70 _ => kn - (intOf v70).toNat)
  case atStart => exact ⟨0, n + 1, Nat.zero_le _, by omega, rfl, HE2.out, HR.out, HG.out⟩
  case round =>
    obtain ⟨i, j, hi, hj, rfl, he, hr, hg⟩ := hrel
    have HE3 := Lib.hid he
    have HGr := Lib.hid hg
    have HRr := Lib.hid hr
    clear he HE2 hr HG HR HR1 HG1
    by_cases hlt : i < kn
    · have t0 : decide ((i : Int) < (kn : Int)) = true := by simp; omega
      obtain ⟨b, off, rfl, hPb, hbl, hcl⟩ := v5_at (l := vs) (by rw [hvl]; exact HD.out) (by omega)
      obtain ⟨q0, q1, q2, q3, q4⟩ := hcl i (by omega)
      have hbK : some b ≠ some K := fun e => by injection e with e; exact hK (e ▸ hPb)
      replace q0 := hg.cell q0 hbK
      replace q1 := hg.cell q1 hbK
      replace q2 := hg.cell q2 hbK
      replace q3 := hg.cell q3 hbK
      replace q4 := hg.cell q4 hbK
      have hvd : vs[i]'(by omega) = vs.getD i v50 := by rw [List.getD_eq_getElem?_getD, List.getElem?_eq_getElem (by omega)]; rfl
      rw [hvd] at q0 q1 q2 q3 q4
      have HKi := Lib.hid ((HKd.out i hlt).grown hg hK)
      have HS := Lib.hid (HE3.out.trans (kidsF_step (condF g) j (by rw [HKn.out]; exact hlt)))
      have HLe := Lib.hid (condF_le g j (ks.getD i cd0))
      have hbl2 := Nat.lt_of_lt_of_le hbl hg.size
      clear hcl hvd HE3 hbK hg hPb
      generalize vs.getD i v50 = u at *
      generalize ks.getD i cd0 = kd at *
      obtain ⟨tv2, dv2, vs2, rfl, ht2, hd2, -⟩ := HKi.out.open_
      obtain ⟨A2, cp2, rfl⟩ := ht2.form
      obtain ⟨A3, cp3, rfl⟩ := hd2.form
      dsimp only at q0 q1 q2 q3 q4
      have HCa := Lib.hid (HI.out kd _ P K j (wr.alloc (.cells #[Value.int .i64 kd.kind, Value.slice A2 kd.terms.length cp2, Value.int .i64 kd.cmp, Value.int .i64 kd.than, Value.slice A3 kd.kids.length cp3] 25)) (HKi.out.alloc _) hK (HRr.out.alloc _) hj)
      have HGa := Lib.hid (Lib.grownBy_allocR HGr.out (.cells #[Value.int .i64 kd.kind, Value.slice A2 kd.terms.length cp2, Value.int .i64 kd.cmp, Value.int .i64 kd.than, Value.slice A3 kd.kids.length cp3] 25))
      unfold V5.val at HCa
      dsimp only at HCa
      clear ht2 hd2 HKi
      generalize condF g j kd = R at *
      obtain ⟨r, m2⟩ := R
      dsimp only at HS HLe HCa
      generalize kd.kind = x0 at *
      generalize kd.terms.length = x1 at *
      generalize kd.cmp = x2 at *
      generalize kd.than = x3 at *
      generalize kd.kids.length = x4 at *
      go_wp2_with fail
      rw [show (13 : Int) - ((g : Int) + 1) + 1 = 13 - (g : Int) by omega]
      refine HCa.out.mono ?_; rintro e w6 ⟨rfl, hr6, hg6⟩
      have HG6 := Lib.hid (Lib.grownBy_trans HGa.out hg6)
      have HR6 := Lib.hid hr6
      clear hr6 hg6
      by_cases r0 : r = 0
      · have u0 : (r != 0) = false := by simp; omega
        have HV := Lib.hid (show E = kidsF (condF g) m2 (ks.drop (i + 1)) by rw [HS.out]; simp [r0])
        have hm2 : m2 ≤ 256 := HLe.out r0
        clear r0
        go_wp2_with fail
        go_roundw
        case rel => exact ⟨i + 1, m2, by omega, hm2, by go_num, HV.out, HR6.out, HG6.out⟩
        case measure => simp [intOf]; omega
      · have u0 : (r != 0) = true := by simp; omega
        have HV := Lib.hid (show E = (r, m2) by rw [HS.out]; simp [r0])
        go_wp2_with fail
        go_ret
        exact ⟨by rw [HV.out]; rfl, by rw [HV.out]; exact HR6.out, HG6.out⟩
    · have t0 : decide ((i : Int) < (kn : Int)) = false := by simp; omega
      have HV : Hid (E = (0, j)) := by unfold Hid; rw [HE3.out, List.drop_eq_nil_iff.2 (by rw [HKn.out]; omega)]; rfl
      go_wp2_with fail
      go_ret
      exact ⟨by rw [HV.out]; rfl, by rw [HV.out]; exact HRr.out, HGr.out⟩
theorem cond_any (f : Nat) (hf : f ≤ 12) : CondAt f := by
  induction f with
  | zero => exact cond_step 0 hf fun g e => by omega
  | succ f ih => exact cond_step (f + 1) hf fun g e => by injection e with e; subst e; exact ih (by omega)
end Go.Proofs.YtonmpealebggoaaGreatDoor
