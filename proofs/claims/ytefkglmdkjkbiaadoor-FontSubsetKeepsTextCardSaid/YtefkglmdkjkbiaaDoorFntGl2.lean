/- The walk of glyph, at contours and at parts. -/
import Derived.Test.YtefkglmdkjkbiaaDoorFntGl
namespace Go.Proofs.YtefkglmdkjkbiaaDoor
open Go.RowKit Fnt
theorem glyph_cons (G : Gl) (many : Nat) (v : Value) (Ap : Option Addr) (cp : Nat) (ok : Nat → Prop) (w : World) (hc : Cons w ok v G.cs) (h0 : 0 < G.cs.length) (h8 : G.cs.length ≤ 8) (hp : G.ps.length = 0) (ha : 0 ≤ G.adv) (ha2 : G.adv ≤ 2047) :
    Calls Tryd.prog 42 #[.agg #[.int .i64 G.adv, v, .slice Ap 0 cp], .int .i64 many] w fun e w' => e = .returned (.int .i64 (glyphE G many)) ∧ Below w.heap.size w w' := by
  have HE : Hid (glyphE G many = scan (conE G) G.cs.length) := by
    unfold Hid glyphE
    rw [hp, decide_eq_false (show ¬ G.adv < 0 by omega), decide_eq_false (show ¬ 2047 < G.adv by omega), decide_eq_false (show ¬ 8 < G.cs.length by omega)]
    simp [scan]
    intro h; rw [h]
  obtain ⟨b, off, cap, vs, rfl, _, hb, hnc, hcm, hcell⟩ := Cons.cells hc h0
  have HC := Lib.hid hcell
  generalize hn : G.cs.length = n at *
  generalize G.adv = a at *
  have HB0 : Hid (∀ o, Below w.heap.size w (w.alloc o)) := fun o => (Below.refl _ _).alloc (Nat.le_refl _) o
  clear hcell hc hp
  generalize hw1 : w.alloc (.cells #[.int .i64 a, .slice (some ⟨b, off, none⟩) n cap, .slice Ap 0 cp] 84) = w1
  have HB1 : Hid (Below w.heap.size w w1) := by rw [← hw1]; exact HB0.out _
  have HK : Hid (Blk w1 w.heap.size 84 #[.int .i64 a, .slice (some ⟨b, off, none⟩) n cap, .slice Ap 0 cp]) := by rw [← hw1]; exact Blk.new w _ _
  have k0 := HK.out.cell 0
  have k1 := HK.out.cell 1
  have k2 := HK.out.cell 2
  simp at k0 k1 k2
  have hb1 : b < w1.heap.size := Nat.lt_of_lt_of_le hb HB1.out.size
  go_enter Tryd.func42, Tryd.ntmps42
  go_wp2
  go_loopw [6, 7, 44] (fun _ _ vi wr => ∃ i : Nat, i ≤ n ∧ vi = .int .i64 i ∧ scan (conE G) i = 0 ∧ Below w1.heap.size w1 wr) (fun _ _ i _ => n - (intOf i).toNat)
  case atStart => exact ⟨0, by omega, rfl, rfl, Below.refl _ _⟩
  case round =>
    obtain ⟨i, hi, rfl, hsc, hbl⟩ := hrel
    have HB := Lib.hid hbl
    have HS := Lib.hid hsc
    have HBw : Hid (Below w.heap.size w wr) := HB1.out.trans (hbl.mono HB1.out.size)
    by_cases hlt : i < n
    · obtain ⟨d0, dp⟩ := HC.out i hlt
      replace d0 := (HBw.out.cell (p := ⟨b, off + i, none⟩) hb).trans d0
      have HA : Hid (∀ e : Int, conE G i = e → e ≠ 0 → scan (conE G) n = e) := fun e h1 h2 => by rw [← h1]; exact scan_at hlt HS.out (by rw [h1]; exact h2)
      have HZ : Hid (conE G i = 0 → scan (conE G) (i + 1) = 0) := fun h1 => by rw [scan_succ HS.out]; exact h1
      have HCt := Lib.hid (contour_any (vs i) _ ok wr (SlM.later dp HBw.out))
      have hce : contourE (G.cs.getD i []) = conE G i := rfl
      rw [hce] at HCt
      generalize conE G i = e0 at *
      generalize vs i = u at *
      clear hbl hsc dp hce
      go_wp2_with fail
      refine HCt.out.mono ?_; rintro e w2 ⟨rfl, hb2⟩
      have HB2 : Hid (Below w1.heap.size w1 w2) := HB.out.trans (hb2.mono HB.out.size)
      clear hb2
      by_cases he0 : e0 = 0
      · subst he0
        go_wp2
        go_roundw
        case rel => exact ⟨i + 1, by omega, by go_num, HZ.out (by first | rfl | trivial), HB2.out⟩
        case measure => simp [intOf]; omega
      · go_wp2
        go_ret
        exact ⟨endInt (by rw [HE.out, HA.out e0 rfl he0]), HB1.out.trans (HB2.out.mono HB1.out.size)⟩
    · obtain rfl : i = n := by omega
      have q2 := (HB.out.cell (p := ⟨w.heap.size, 2, none⟩) HK.out.lt).trans k2
      clear hbl hsc
      go_wp2
      go_loopw [9, 57] (fun _ vi wq => vi = .int .i64 0 ∧ wq = wr) (fun _ _ _ => 0)
      case atStart => exact ⟨rfl, rfl⟩
      case round =>
        obtain ⟨rfl, rfl⟩ := hrel
        go_wp2
        go_ret
        exact ⟨endInt (by rw [HE.out, HS.out]), HBw.out⟩
theorem glyph_parts (G : Gl) (many : Nat) (v : Value) (Ac : Option Addr) (cc : Nat) (ok : Nat → Prop) (w : World) (hp : Pas w ok v G.ps) (h4 : G.ps.length ≤ 4) (hc : G.cs.length = 0) (ha : 0 ≤ G.adv) (ha2 : G.adv ≤ 2047) (hmany : many ≤ 1000000) :
    Calls Tryd.prog 42 #[.agg #[.int .i64 G.adv, .slice Ac 0 cc, v], .int .i64 many] w fun e w' => e = .returned (.int .i64 (glyphE G many)) ∧ Below w.heap.size w w' := by
  have HE : Hid (glyphE G many = scan (parE many G) G.ps.length) := by
    unfold Hid glyphE
    rw [hc, decide_eq_false (show ¬ G.adv < 0 by omega), decide_eq_false (show ¬ 2047 < G.adv by omega), decide_eq_false (show ¬ 4 < G.ps.length by omega)]
    simp [scan]
  obtain ⟨Ap, cp, rfl, hm1, hm2⟩ := hp.form
  have HPs := Lib.hid hp
  generalize hn : G.ps.length = n at *
  have HN := Lib.hid hn
  generalize G.adv = a at *
  have HB0 : Hid (∀ o, Below w.heap.size w (w.alloc o)) := fun o => (Below.refl _ _).alloc (Nat.le_refl _) o
  clear hp hc hn
  generalize hw1 : w.alloc (.cells #[.int .i64 a, .slice Ac 0 cc, .slice Ap n cp] 84) = w1
  have HB1 : Hid (Below w.heap.size w w1) := by rw [← hw1]; exact HB0.out _
  have HK : Hid (Blk w1 w.heap.size 84 #[.int .i64 a, .slice Ac 0 cc, .slice Ap n cp]) := by rw [← hw1]; exact Blk.new w _ _
  have k0 := HK.out.cell 0
  have k1 := HK.out.cell 1
  have k2 := HK.out.cell 2
  simp at k0 k1 k2
  go_enter Tryd.func42, Tryd.ntmps42
  go_wp2
  go_loopw [6, 7, 44] (fun _ _ vi wq => vi = .int .i64 0 ∧ wq = w1) (fun _ _ _ _ => 0)
  case atStart => exact ⟨rfl, rfl⟩
  case round =>
    obtain ⟨rfl, rfl⟩ := hrel
    go_wp2
    go_loopw [9, 57] (fun _ vi wq => ∃ i : Nat, i ≤ n ∧ vi = .int .i64 i ∧ scan (parE many G) i = 0 ∧ Below wr.heap.size wr wq) (fun _ i _ => n - (intOf i).toNat)
    case atStart => exact ⟨0, by omega, rfl, rfl, Below.refl _ _⟩
    case round =>
      obtain ⟨i, hi, rfl, hsc, hbl⟩ := hrel
      have HB := Lib.hid hbl
      have HS := Lib.hid hsc
      have HBw : Hid (Below w.heap.size w _) := HB1.out.trans (hbl.mono HB1.out.size)
      by_cases hlt : i < n
      · obtain ⟨b, off, cap, ev, _, hb, _, _, hcell⟩ := Pas.cells HPs.out (by rw [HN.out]; omega)
        injection ev with e1 e2 e3
        subst e1 e3
        clear e2
        obtain ⟨d0, d1, d2⟩ := hcell i (by rw [HN.out]; exact hlt)
        replace d0 := (HBw.out.cell (p := ⟨b, off + i * 3, none⟩) hb).trans d0
        replace d1 := (HBw.out.cell (p := ⟨b, off + i * 3 + 1, none⟩) hb).trans d1
        replace d2 := (HBw.out.cell (p := ⟨b, off + i * 3 + 2, none⟩) hb).trans d2
        have HP : Hid (parE many G i = (if decide ((G.ps.getD i default).g < 0) || decide ((many : Int) ≤ (G.ps.getD i default).g) then 8 else if far (G.ps.getD i default).x || far (G.ps.getD i default).y then 3 else 0)) := rfl
        have HA : Hid (∀ e : Int, parE many G i = e → e ≠ 0 → scan (parE many G) n = e) := fun e h1 h2 => by rw [← h1]; exact scan_at hlt HS.out (by rw [h1]; exact h2)
        have HZ : Hid (parE many G i = 0 → scan (parE many G) (i + 1) = 0) := fun h1 => by rw [scan_succ HS.out]; exact h1
        clear hbl hsc hcell
        generalize G.ps.getD i default = x at *
        obtain ⟨xg, xx, xy⟩ := x
        dsimp only at d0 d1 d2
        by_cases hg : xg < 0 ∨ (many : Int) ≤ xg
        · have HP8 : Hid (parE many G i = 8) := by
            unfold Hid; rw [HP.out]
            rw [if_pos (by simpa using hg)]
          clear HP
          rcases hg with hg | hg
          · go_wp2
            go_ret
            exact ⟨endInt (by rw [HE.out, HA.out 8 HP8.out (by decide)]), HBw.out.alloc HBw.out.size _⟩
          · by_cases hg0 : xg < 0
            · omega
            · go_wp2
              go_ret
              exact ⟨endInt (by rw [HE.out, HA.out 8 HP8.out (by decide)]), HBw.out.alloc HBw.out.size _⟩
        · have hg1 : ¬ xg < 0 := fun e => hg (.inl e)
          have hg2 : ¬ (many : Int) ≤ xg := fun e => hg (.inr e)
          have HP2 : Hid (parE many G i = if far xx || far xy then 3 else 0) := by
            unfold Hid; rw [HP.out]
            rw [if_neg (by simpa using hg)]
          clear HP hg
          cases hx : far xx with
          | true =>
            have HX := Lib.hid (far_is hx)
            have HP3 : Hid (parE many G i = 3) := by unfold Hid; rw [HP2.out, hx]; rfl
            clear hx
            go_wp2_with ((with_reducible refine (HX.out _).mono ?_); rintro e w' ⟨rfl, rfl⟩)
            go_ret
            exact ⟨endInt (by rw [HE.out, HA.out 3 HP3.out (by decide)]), HBw.out.alloc HBw.out.size _⟩
          | false =>
            have HX := Lib.hid (far_is hx)
            cases hy : far xy with
            | true =>
              have HY := Lib.hid (far_is hy)
              have HP3 : Hid (parE many G i = 3) := by unfold Hid; rw [HP2.out, hx, hy]; rfl
              clear hx hy
              go_wp2_with (first | ((with_reducible refine (HX.out _).mono ?_); rintro e w' ⟨rfl, rfl⟩) | ((with_reducible refine (HY.out _).mono ?_); rintro e w' ⟨rfl, rfl⟩))
              go_ret
              exact ⟨endInt (by rw [HE.out, HA.out 3 HP3.out (by decide)]), HBw.out.alloc HBw.out.size _⟩
            | false =>
              have HY := Lib.hid (far_is hy)
              have HP0 : Hid (parE many G i = 0) := by unfold Hid; rw [HP2.out, hx, hy]; rfl
              clear hx hy
              go_wp2_with (first | ((with_reducible refine (HX.out _).mono ?_); rintro e w' ⟨rfl, rfl⟩) | ((with_reducible refine (HY.out _).mono ?_); rintro e w' ⟨rfl, rfl⟩))
              go_roundw
              case rel => exact ⟨i + 1, by omega, by go_num, HZ.out HP0.out, HB.out.alloc HB.out.size _⟩
              case measure => simp [intOf]; omega
      · obtain rfl : i = n := by omega
        clear hbl hsc
        go_wp2
        go_ret
        exact ⟨endInt (by rw [HE.out, HS.out]), HBw.out⟩
theorem glyph_any (G : Gl) (many : Nat) (cv pv : Value) (ok : Nat → Prop) (w : World) (hc : Cons w ok cv G.cs) (hp : Pas w ok pv G.ps) (hmany : many ≤ 1000000) :
    Calls Tryd.prog 42 #[.agg #[.int .i64 G.adv, cv, pv], .int .i64 many] w fun e w' => e = .returned (.int .i64 (glyphE G many)) ∧ Below w.heap.size w w' := by
  obtain ⟨Ac, cc, rfl, hn1, hn2⟩ := hc.form
  obtain ⟨Ap, cp, rfl, hm1, hm2⟩ := hp.form
  by_cases h1 : (decide (G.adv < 0) || decide (2047 < G.adv)) = true
  · exact glyph_early G many _ _ _ _ w (by omega) (by omega) (.inl h1)
  · by_cases h2 : (decide (0 < G.cs.length) && decide (0 < G.ps.length)) = true
    · exact glyph_early G many _ _ _ _ w (by omega) (by omega) (.inr (.inl h2))
    · by_cases h3 : (decide (8 < G.cs.length) || decide (4 < G.ps.length)) = true
      · exact glyph_early G many _ _ _ _ w (by omega) (by omega) (.inr (.inr h3))
      · simp at h1 h2 h3
        by_cases h0 : 0 < G.cs.length
        · have hp0 : G.ps.length = 0 := by have := h2 h0; first | omega | (rw [this]; rfl)
          have := glyph_cons G many _ Ap cp ok w hc h0 h3.1 hp0 h1.1 h1.2
          rw [hp0]; exact this
        · have hc0 : G.cs.length = 0 := by omega
          have := glyph_parts G many _ Ac cc ok w hp h3.2 hc0 h1.1 h1.2 hmany
          rw [hc0]; exact this
end Go.Proofs.YtefkglmdkjkbiaaDoor
