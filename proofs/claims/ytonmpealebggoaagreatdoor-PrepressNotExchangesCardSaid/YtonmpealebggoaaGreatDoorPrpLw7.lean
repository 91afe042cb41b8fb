/- The law PrepressNotExchanges: De Morgan. -/
import Derived.Test.YtonmpealebggoaaGreatDoorPrpLow
import Derived.Test.YtonmpealebggoaaGreatDoorPrpRls
import Derived.Test.YtonmpealebggoaaGreatDoorPrpNot
import Derived.Deep.RegionHeld3
namespace Go.Proofs.YtonmpealebggoaaGreatDoor
open Go.RowKit Pr
theorem morgan {a b : Cd} {l : List Ft} (n m : Src) (h1 : (trutE (n, .mk 1 [] 0 0 [.mk 2 [] 0 0 [a, b]]) l).2 = 0) (h2 : (trutE (m, .mk 3 [] 0 0 [.mk 1 [] 0 0 [a], .mk 1 [] 0 0 [b]]) l).2 = 0) :
    (trutE (n, .mk 1 [] 0 0 [.mk 2 [] 0 0 [a, b]]) l).1 = (trutE (m, .mk 3 [] 0 0 [.mk 1 [] 0 0 [a], .mk 1 [] 0 0 [b]]) l).1 := by
  unfold trutE at *
  split at h1
  · next h => exact absurd h1 h
  split at h1
  · next h => exact absurd h1 h
  split at h2
  · next h => exact absurd h2 h
  rename_i g1 g2 g3
  rw [if_neg g1, if_neg g2, if_neg g3, if_neg g2]
  exact truth_morgan 10 l a b
set_option maxRecDepth 100000 in
set_option maxHeartbeats 16000000 in
theorem exchanges_law (a b : Cd) (u v : V5) (l : List Ft) (fv : Value) (P1 P2 Q : Nat → Prop) (w : World) (ha : CdV P1 w u a) (hb : CdV P2 w v b) (hf : FtsM Q w fv l) (hT : Tabs w ∧ ErrT w) :
    Calls Tryz.prog 4 #[.agg #[u.k, u.t, u.c, u.n, u.d], .agg #[v.k, v.t, v.c, v.n, v.d], fv] w fun e w' => e = .returned (.bool true) ∧ Below w.heap.size w w' := by
  have HRu := Lib.hid (fun W (hW : Below w.heap.size w W) => rules_any W ⟨hT.1.later hW, hT.2.later hW⟩)
  have HJd := Lib.hid (fun W (hW : Below w.heap.size w W) => judged_any W (hT.1.later hW))
  have HTr : Hid (∀ (n : Src) (o : Cd) (x : V5) W (hW : Below w.heap.size w W), CdV (fun _ => True) W x o → n.length ≤ maxLen → Calls Tryz.prog 6 #[.agg #[.string (Bs n), x.k, x.t, x.c, x.n, x.d], fv] W fun e w' => e = .returned (.tuple #[.int .i64 (trutE (n, o) l).1, .int .i64 (trutE (n, o) l).2]) ∧ Below W.heap.size W w') :=
    fun n o x W hW hx hn => Truth_any (n, o) x l fv _ Q W hx hn (hf.later hW) (hT.1.later hW)
  have HA := Lib.hid (fun W (hW : Below w.heap.size w W) => notc_any a u P1 W (ha.later hW))
  have HB := Lib.hid (fun W (hW : Below w.heap.size w W) => notc_any b v P2 W (hb.later hW))
  have HAB := Lib.hid (fun W (hW : Below w.heap.size w W) => bothc_any 2 (by unfold I64; omega) a b u v P1 P2 W (ha.later hW) (hb.later hW))
  have HMo := Lib.hid (morgan (a := a) (b := b) (l := l) [97] [97])
  clear ha hb hf hT
  obtain ⟨uk, ut, uc, un, ud⟩ := u
  obtain ⟨vk, vt, vc, vn, vd⟩ := v
  dsimp only at *
  have b1 := (Below.refl w.heap.size w).alloc (Nat.le_refl _) (.cells #[uk, ut, uc, un, ud] 25)
  have b2 := b1.alloc (by simp) (.cells #[vk, vt, vc, vn, vd] 25)
  have k1 := (Blk.new w 25 #[uk, ut, uc, un, ud]).alloc (.cells #[vk, vt, vc, vn, vd] 25)
  have k2 := Blk.new (w.alloc (.cells #[uk, ut, uc, un, ud] 25)) 25 #[vk, vt, vc, vn, vd]
  rw [show (w.alloc (.cells #[uk, ut, uc, un, ud] 25)).heap.size = w.heap.size + 1 by simp] at k2
  have HK1 := Lib.hid k1
  have HK2 := Lib.hid k2
  have HB1 := Lib.hid b2
  clear b1 b2 k1 k2
  go_enter Tryz.func4, Tryz.ntmps4
  go_wp2_with fail
  generalize (w.alloc (.cells #[uk, ut, uc, un, ud] 25)).alloc (.cells #[vk, vt, vc, vn, vd] 25) = w1 at *
  refine (HRu.out _ HB1.out).mono ?_
  rintro e w2 ⟨rfl, hb2⟩
  have HB2 := Lib.hid (HB1.out.trans (hb2.mono HB1.out.size))
  have HK3 := Lib.hid (HK1.out.below hb2 HK1.out.lt)
  have HK4 := Lib.hid (HK2.out.below hb2 HK2.out.lt)
  clear hb2 HB1 HK1 HK2 HRu
  go_wp2_with fail
  refine (HJd.out _ HB2.out).mono ?_
  rintro e w3 ⟨rfl, hb3⟩
  have HB3 := Lib.hid (HB2.out.trans (hb3.mono HB2.out.size))
  have HK1 := Lib.hid (HK3.out.below hb3 HK3.out.lt)
  have HK2 := Lib.hid (HK4.out.below hb3 HK4.out.lt)
  clear hb3 HB2 HK3 HK4 HJd
  obtain ⟨x0, x1, x2, x3, x4⟩ := b5_cells HK1.out
  obtain ⟨y0, y1, y2, y3, y4⟩ := b5_cells HK2.out
  have xl := HK1.out.lt
  have yl := HK2.out.lt
  have HC := Lib.hid (HAB.out _ HB3.out)
  go_wp2_with fail
  refine HC.out.mono ?_
  rintro e w4 ⟨x, rfl, hx, hb4⟩
  have HB4 := Lib.hid (HB3.out.trans (hb4.mono HB3.out.size))
  have HK3 := Lib.hid (HK1.out.below hb4 HK1.out.lt)
  have HK4 := Lib.hid (HK2.out.below hb4 HK2.out.lt)
  have HC := Lib.hid (notc_any _ x _ w4 hx)
  clear hb4 hx HB3 HK1 HK2 HAB x0 x1 x2 x3 x4 y0 y1 y2 y3 y4 xl yl
  go_wp2_with fail
  refine HC.out.mono ?_
  rintro e w5 ⟨y, rfl, hy, hb5⟩
  have HB5 := Lib.hid (HB4.out.trans (hb5.mono HB4.out.size))
  have HK1 := Lib.hid (HK3.out.below hb5 HK3.out.lt)
  have HK2 := Lib.hid (HK4.out.below hb5 HK4.out.lt)
  have HC := Lib.hid (HTr.out [97] _ y w5 HB5.out hy (by decide))
  clear hb5 hy HB4 HK3 HK4
  go_wp2_with fail
  refine HC.out.mono ?_
  rintro e w6 ⟨rfl, hb6⟩
  have HB6 := Lib.hid (HB5.out.trans (hb6.mono HB5.out.size))
  have HK3 := Lib.hid (HK1.out.below hb6 HK1.out.lt)
  have HK4 := Lib.hid (HK2.out.below hb6 HK2.out.lt)
  clear hb6 HB5 HK1 HK2 HC
  have HA' : Hid (∀ W, Below w6.heap.size w6 W → Calls Tryz.prog 9 #[.agg #[uk, ut, uc, un, ud]] W fun e w' => ∃ v : V5, e = .returned (.agg #[v.k, v.t, v.c, v.n, v.d]) ∧ CdV (fun _ => True) w' v (.mk 1 [] 0 0 [a]) ∧ Below w6.heap.size w6 w') := fun W hW =>
    (HA.out W (HB6.out.trans (hW.mono HB6.out.size))).mono fun e w' ⟨v, h1, h2, h3⟩ => ⟨v, h1, h2, hW.trans (h3.mono hW.size)⟩
  have HB' : Hid (∀ W x, Below w6.heap.size w6 W → CdV (fun _ => True) W x (.mk 1 [] 0 0 [a]) → Calls Tryz.prog 9 #[.agg #[vk, vt, vc, vn, vd]] W fun e w' => ∃ v : V5, e = .returned (.agg #[v.k, v.t, v.c, v.n, v.d]) ∧ CdV (fun _ => True) w' x (.mk 1 [] 0 0 [a]) ∧ CdV (fun _ => True) w' v (.mk 1 [] 0 0 [b]) ∧ Below w6.heap.size w6 w') := fun W x hW hx =>
    (HB.out W (HB6.out.trans (hW.mono HB6.out.size))).mono fun e w' ⟨v, h1, h2, h3⟩ => ⟨v, h1, hx.later h3, h2, hW.trans (h3.mono hW.size)⟩
  have HC' : Hid (∀ W (x y : V5), Below w6.heap.size w6 W → CdV (fun _ => True) W x (.mk 1 [] 0 0 [a]) → CdV (fun _ => True) W y (.mk 1 [] 0 0 [b]) → Calls Tryz.prog 10 #[.int .i64 3, .agg #[x.k, x.t, x.c, x.n, x.d], .agg #[y.k, y.t, y.c, y.n, y.d]] W fun e w' => ∃ v : V5, e = .returned (.agg #[v.k, v.t, v.c, v.n, v.d]) ∧ CdV (fun _ => True) w' v (.mk 3 [] 0 0 [.mk 1 [] 0 0 [a], .mk 1 [] 0 0 [b]]) ∧ Below w6.heap.size w6 w') := fun W x y hW hx hy =>
    (bothc_any 3 (by unfold I64; omega) _ _ x y _ _ W hx hy).mono fun e w' ⟨v, h1, h2, h3⟩ => ⟨v, h1, h2, hW.trans (h3.mono hW.size)⟩
  have HT' : Hid (∀ W (x : V5), Below w6.heap.size w6 W → CdV (fun _ => True) W x (.mk 3 [] 0 0 [.mk 1 [] 0 0 [a], .mk 1 [] 0 0 [b]]) → Calls Tryz.prog 6 #[.agg #[.string ⟨#[97]⟩, x.k, x.t, x.c, x.n, x.d], fv] W fun e w' => e = .returned (.tuple #[.int .i64 (trutE ([97], .mk 3 [] 0 0 [.mk 1 [] 0 0 [a], .mk 1 [] 0 0 [b]]) l).1, .int .i64 (trutE ([97], .mk 3 [] 0 0 [.mk 1 [] 0 0 [a], .mk 1 [] 0 0 [b]]) l).2]) ∧ Below w6.heap.size w6 w') := fun W x hW hx =>
    (HTr.out [97] _ x W (HB6.out.trans (hW.mono HB6.out.size)) hx (by decide)).mono fun e w' ⟨h1, h3⟩ => ⟨h1, hW.trans (h3.mono hW.size)⟩
  have HS : Hid (∀ W, Below w6.heap.size w6 W → (W.cell? ⟨w.heap.size, 0, none⟩ = some uk ∧ W.cell? ⟨w.heap.size, 1, none⟩ = some ut ∧ W.cell? ⟨w.heap.size, 2, none⟩ = some uc ∧ W.cell? ⟨w.heap.size, 3, none⟩ = some un ∧ W.cell? ⟨w.heap.size, 4, none⟩ = some ud) ∧ (W.cell? ⟨w.heap.size + 1, 0, none⟩ = some vk ∧ W.cell? ⟨w.heap.size + 1, 1, none⟩ = some vt ∧ W.cell? ⟨w.heap.size + 1, 2, none⟩ = some vc ∧ W.cell? ⟨w.heap.size + 1, 3, none⟩ = some vn ∧ W.cell? ⟨w.heap.size + 1, 4, none⟩ = some vd) ∧ w.heap.size < W.heap.size ∧ w.heap.size + 1 < W.heap.size) := fun W hW =>
    ⟨b5_cells (HK3.out.below hW HK3.out.lt), b5_cells (HK4.out.below hW HK4.out.lt), (HK3.out.below hW HK3.out.lt).lt, (HK4.out.below hW HK4.out.lt).lt⟩
  clear HA HB HTr HK3 HK4
  generalize trutE ([97], .mk 1 [] 0 0 [.mk 2 [] 0 0 [a, b]]) l = T1 at *
  generalize trutE ([97], .mk 3 [] 0 0 [.mk 1 [] 0 0 [a], .mk 1 [] 0 0 [b]]) l = T2 at *
  obtain ⟨r1, e1⟩ := T1
  obtain ⟨r2, e2⟩ := T2
  dsimp only at *
  go_upto_region 6 with (fail)
  go_region_held3 (fun W => (W.cell? ⟨w.heap.size, 0, none⟩ = some uk ∧ W.cell? ⟨w.heap.size, 1, none⟩ = some ut ∧ W.cell? ⟨w.heap.size, 2, none⟩ = some uc ∧ W.cell? ⟨w.heap.size, 3, none⟩ = some un ∧ W.cell? ⟨w.heap.size, 4, none⟩ = some ud) ∧ (W.cell? ⟨w.heap.size + 1, 0, none⟩ = some vk ∧ W.cell? ⟨w.heap.size + 1, 1, none⟩ = some vt ∧ W.cell? ⟨w.heap.size + 1, 2, none⟩ = some vc ∧ W.cell? ⟨w.heap.size + 1, 3, none⟩ = some vn ∧ W.cell? ⟨w.heap.size + 1, 4, none⟩ = some vd) ∧ w.heap.size < W.heap.size ∧ w.heap.size + 1 < W.heap.size)
    (first | exact HS.out _ (Below.refl _ _).drew | exact HS.out _ (by assumption))
    (first
      | (go_at_call 9; refine (HA'.out _ (by first | exact (Below.refl _ _).drew | assumption)).mono ?_; rintro e wa1 ⟨xa, rfl, hxa, ha1⟩)
      | (go_at_call 9; refine (HB'.out _ _ (by assumption) (by assumption)).mono ?_; rintro e wa2 ⟨xb, rfl, hxa2, hxb, ha2⟩)
      | (go_at_call 10; refine (HC'.out _ _ _ (by assumption) (by assumption) (by assumption)).mono ?_; rintro e wa3 ⟨xc, rfl, hxc, ha3⟩)
      | (go_at_call 6; refine (HT'.out _ _ (by assumption) (by assumption)).mono ?_; rintro e wa4 ⟨rfl, ha4⟩))
  have HBe := Lib.hid (HB6.out.trans (ha4.mono HB6.out.size))
  clear ha1 ha2 ha3 ha4 hxa hxa2 hxb hxc HA' HB' HC' HT' HS HB6
  by_cases g1 : e1 = 0
  case neg =>
    have u1 : (e1 != 0) = true := by rw [bne_iff_ne]; exact g1
    go_wp2_with fail
    go_ret
    exact ⟨rfl, HBe.out⟩
  by_cases g2 : e2 = 0
  case neg =>
    subst g1
    have u1 : (e2 != 0) = true := by rw [bne_iff_ne]; exact g2
    go_wp2_with fail
    go_ret
    exact ⟨rfl, HBe.out⟩
  subst g1; subst g2
  have hr : r1 = r2 := HMo.out rfl rfl
  subst hr
  go_wp2_with fail
  go_ret
  exact ⟨by simp, HBe.out⟩
end Go.Proofs.YtonmpealebggoaaGreatDoor
