/- The law PrepressTruthNeverRevoked: one more fact never changes what was true or false. -/
import Derived.Test.YtonmpealebggoaaGreatDoorPrpAdd
import Derived.Test.YtonmpealebggoaaGreatDoorPrpRls
import Derived.Deep.QuietTactic
import Derived.BigQuiet
namespace Go.Proofs.YtonmpealebggoaaGreatDoor
open Go.RowKit Pr
set_option maxRecDepth 100000 in
set_option maxHeartbeats 16000000 in
theorem never_law (r : Rl) (u : V5) (l : List Ft) (x : Ft) (fv : Value) (P Q : Nat → Prop) (w : World) (hu : CdV P w u r.2) (hn : r.1.length ≤ maxLen) (hf : FtsM Q w fv l) (hx : x.1.length ≤ maxLen) (hl : l.length * 24 + 24 ≤ 140737488355328) (hT : Tabs w ∧ ErrT w) :
    Calls Tryz.prog 3 #[.agg #[.string (Bs r.1), u.k, u.t, u.c, u.n, u.d], fv, .agg #[.string (Bs x.1), .int .i64 x.2]] w fun e w' => e = .returned (.bool true) ∧ Below w.heap.size w w' := by
  have HRu := Lib.hid (fun W (hW : Below w.heap.size w W) => rules_any W ⟨hT.1.later hW, hT.2.later hW⟩)
  have HTr := Lib.hid (fun (m : List Ft) (mv : Value) (P' : Nat → Prop) W (hW : Below w.heap.size w W) (hm : FtsM P' W mv m) => Truth_any r u m mv P P' W (hu.later hW) hn hm (hT.1.later hW))
  have HAd := Lib.hid (fun W (hW : Below w.heap.size w W) => add_any l x fv Q W (hf.later hW) hl hx)
  have HFv := Lib.hid hf
  have HNv := Lib.hid (fun out => never (r := r) (l := l) (out := out))
  have HFa := Lib.hid (fun out => fails (r := r) (l := out))
  obtain ⟨tv, dv, vs, rfl, ht, hd, -⟩ := hu.open_
  obtain ⟨fA, fc, rfl⟩ := hf.1.form
  obtain ⟨A1, c1, rfl⟩ := ht.form
  obtain ⟨A2, c2, rfl⟩ := hd.form
  clear hu hf ht hd hT hx hl hn
  dsimp only [V5.val] at *
  generalize Bs r.1 = NM at *
  generalize r.2.terms.length = n1 at *
  generalize r.2.kids.length = n2 at *
  generalize r.2.kind = k0 at *
  generalize r.2.cmp = k2 at *
  generalize r.2.than = k3 at *
  generalize hfn : l.length = fn at *
  generalize Bs x.1 = XN at *
  generalize x.2 = XV at *
  have b1 := (Below.refl w.heap.size w).alloc (Nat.le_refl _) (.cells #[.string NM, .int .i64 k0, .slice A1 n1 c1, .int .i64 k2, .int .i64 k3, .slice A2 n2 c2] 27)
  have b2 := b1.alloc (by simp) (.cells #[.string XN, .int .i64 XV] 30)
  have q1 := (Blk.new w 27 #[.string NM, .int .i64 k0, .slice A1 n1 c1, .int .i64 k2, .int .i64 k3, .slice A2 n2 c2]).alloc (.cells #[.string XN, .int .i64 XV] 30)
  have q2 := Blk.new (w.alloc (.cells #[.string NM, .int .i64 k0, .slice A1 n1 c1, .int .i64 k2, .int .i64 k3, .slice A2 n2 c2] 27)) 30 #[.string XN, .int .i64 XV]
  rw [show (w.alloc (.cells #[.string NM, .int .i64 k0, .slice A1 n1 c1, .int .i64 k2, .int .i64 k3, .slice A2 n2 c2] 27)).heap.size = w.heap.size + 1 by simp] at q2
  have HB1 := Lib.hid b2
  have HK1 := Lib.hid q1
  have HK2 := Lib.hid q2
  clear b1 b2 q1 q2
  go_enter Tryz.func3, Tryz.ntmps3
  go_wp2_with fail
  generalize (w.alloc (.cells #[.string NM, .int .i64 k0, .slice A1 n1 c1, .int .i64 k2, .int .i64 k3, .slice A2 n2 c2] 27)).alloc (.cells #[.string XN, .int .i64 XV] 30) = w1 at *
  refine (HRu.out _ HB1.out).mono ?_
  rintro e w2 ⟨rfl, hb2⟩
  have HB2 := Lib.hid (HB1.out.trans (hb2.mono HB1.out.size))
  have HK3 := Lib.hid (HK1.out.below hb2 HK1.out.lt)
  have HK4 := Lib.hid (HK2.out.below hb2 HK2.out.lt)
  clear hb2 HB1 HK1 HK2 HRu
  obtain ⟨x0, x1, x2, x3, x4, x5⟩ := b6_cells HK3.out
  have xl := HK3.out.lt
  have HT1 := Lib.hid (HTr.out l _ _ w2 HB2.out (HFv.out.later HB2.out))
  go_wp2_with fail
  refine HT1.out.mono ?_
  rintro e w3 ⟨rfl, hb3⟩
  have HB3 := Lib.hid (HB2.out.trans (hb3.mono HB2.out.size))
  have HK1 := Lib.hid (HK3.out.below hb3 HK3.out.lt)
  have HK2 := Lib.hid (HK4.out.below hb3 HK4.out.lt)
  clear hb3 HB2 HK3 HK4 x0 x1 x2 x3 x4 x5 xl HT1
  have HS : Hid (∀ W, Below w3.heap.size w3 W → (W.cell? ⟨w.heap.size, 0, none⟩ = some (.string NM) ∧ W.cell? ⟨w.heap.size, 1, none⟩ = some (.int .i64 k0) ∧ W.cell? ⟨w.heap.size, 2, none⟩ = some (.slice A1 n1 c1) ∧ W.cell? ⟨w.heap.size, 3, none⟩ = some (.int .i64 k2) ∧ W.cell? ⟨w.heap.size, 4, none⟩ = some (.int .i64 k3) ∧ W.cell? ⟨w.heap.size, 5, none⟩ = some (.slice A2 n2 c2)) ∧ (W.cell? ⟨w.heap.size + 1, 0, none⟩ = some (.string XN) ∧ W.cell? ⟨w.heap.size + 1, 1, none⟩ = some (.int .i64 XV)) ∧ w.heap.size < W.heap.size ∧ w.heap.size + 1 < W.heap.size) := fun W hW =>
    ⟨b6_cells (HK1.out.below hW HK1.out.lt), ⟨by simpa using (HK2.out.below hW HK2.out.lt).cell 0, by simpa using (HK2.out.below hW HK2.out.lt).cell 1⟩, (HK1.out.below hW HK1.out.lt).lt, (HK2.out.below hW HK2.out.lt).lt⟩
  have HA' : Hid (∀ W, Below w3.heap.size w3 W → Calls Tryz.prog 7 #[.slice fA fn fc, .agg #[.string XN, .int .i64 XV]] W fun e w' => ∃ (out : List Ft) (v' : Value), e = .returned v' ∧ FtsM (fun _ => True) w' v' out ∧ (∀ y ∈ l, y ∈ out) ∧ Below w3.heap.size w3 w') := fun W hW =>
    (HAd.out W (HB3.out.trans (hW.mono HB3.out.size))).mono fun e w' ⟨out, v', h1, h2, h3, h4⟩ => ⟨out, v', h1, h2, h3, hW.trans (h4.mono hW.size)⟩
  have HT' : Hid (∀ W (out : List Ft) (v' : Value), Below w3.heap.size w3 W → FtsM (fun _ => True) W v' out → Calls Tryz.prog 6 #[.agg #[.string NM, .int .i64 k0, .slice A1 n1 c1, .int .i64 k2, .int .i64 k3, .slice A2 n2 c2], v'] W fun e w' => e = .returned (.tuple #[.int .i64 (trutE r out).1, .int .i64 (trutE r out).2]) ∧ Below w3.heap.size w3 w') := fun W out v' hW hm =>
    (HTr.out out v' _ W (HB3.out.trans (hW.mono HB3.out.size)) hm).mono fun e w' ⟨h1, h4⟩ => ⟨h1, hW.trans (h4.mono hW.size)⟩
  clear HTr HAd HK1 HK2
  have HF1 := Lib.hid (HFa.out l)
  generalize hT1 : trutE r l = T1 at *
  have HT1 := Lib.hid hT1
  clear hT1
  obtain ⟨r1, e1⟩ := T1
  dsimp only at *
  go_upto_region 4 with (fail)
  go_region_held3 (fun W => (W.cell? ⟨w.heap.size, 0, none⟩ = some (.string NM) ∧ W.cell? ⟨w.heap.size, 1, none⟩ = some (.int .i64 k0) ∧ W.cell? ⟨w.heap.size, 2, none⟩ = some (.slice A1 n1 c1) ∧ W.cell? ⟨w.heap.size, 3, none⟩ = some (.int .i64 k2) ∧ W.cell? ⟨w.heap.size, 4, none⟩ = some (.int .i64 k3) ∧ W.cell? ⟨w.heap.size, 5, none⟩ = some (.slice A2 n2 c2)) ∧ (W.cell? ⟨w.heap.size + 1, 0, none⟩ = some (.string XN) ∧ W.cell? ⟨w.heap.size + 1, 1, none⟩ = some (.int .i64 XV)) ∧ w.heap.size < W.heap.size ∧ w.heap.size + 1 < W.heap.size)
    (first | exact HS.out _ (Below.refl _ _).drew | exact HS.out _ (by assumption))
    (first
      | (go_at_call 7; refine (HA'.out _ (by first | exact (Below.refl _ _).drew | assumption)).mono ?_; rintro e wa1 ⟨out, vo, rfl, hvo, hpo, ha1⟩)
      | (go_at_call 6; refine (HT'.out _ _ _ (by assumption) (by assumption)).mono ?_; rintro e wa2 ⟨rfl, ha2⟩))
  have HBe := Lib.hid (HB3.out.trans (ha2.mono HB3.out.size))
  have HN1 := Lib.hid (HNv.out out hpo)
  have HF2 := Lib.hid (HFa.out out)
  clear ha1 ha2 hvo hpo HA' HT' HS HB3 HNv HFa
  generalize trutE r out = T2 at *
  obtain ⟨r2, e2⟩ := T2
  dsimp only at *
  by_cases g1 : e1 = 0
  case neg =>
    have u1 : (e1 != 0) = true := by rw [bne_iff_ne]; exact g1
    have u2 : r1 = 0 := HF1.out g1
    subst u2
    go_wp2_with fail
    go_ret
    exact ⟨rfl, HBe.out⟩
  by_cases g2 : e2 = 0
  case neg =>
    subst g1
    have u1 : (e2 != 0) = true := by rw [bne_iff_ne]; exact g2
    have u2 : r2 = 0 := HF2.out g2
    subst u2
    by_cases g3 : r1 = 0
    · subst g3
      go_wp2_with fail
      go_ret
      exact ⟨rfl, HBe.out⟩
    · have u3 : (r1 == 0) = false := by rw [beq_eq_false_iff_ne]; exact g3
      go_wp2_with fail
      go_ret
      exact ⟨rfl, HBe.out⟩
  subst g1; subst g2
  by_cases g3 : r1 = 2
  · subst g3
    go_wp2_with fail
    go_ret
    exact ⟨rfl, HBe.out⟩
  · have u3 : (r1 == 2) = false := by rw [beq_eq_false_iff_ne]; exact g3
    have hr : r1 = r2 := (HN1.out rfl rfl).resolve_left g3
    subst hr
    go_wp2_with fail
    go_ret
    exact ⟨by simp, HBe.out⟩
end Go.Proofs.YtonmpealebggoaaGreatDoor
