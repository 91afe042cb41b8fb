/- The walk of tables. -/
import Derived.Test.YtefkglmdkjkbiaaDoorFntPairs
import Derived.Test.YtefkglmdkjkbiaaDoorFntGl2
import Derived.Deep.QuietTactic
import Derived.BigQuiet
import Derived.IntWalk
namespace Go.Proofs.YtefkglmdkjkbiaaDoor
open Go.RowKit Fnt
set_option maxRecDepth 100000 in
set_option maxHeartbeats 4000000 in
theorem tables_any (F : Font) (v : Value) (ok : Nat → Prop) (w : World) (h : FntV w ok v F) (hN : F.gs.length ≤ 1000000) :
    Calls Tryd.prog 43 #[v] w fun e w' => e = .returned (.int .i64 (tablesE F)) ∧ Below w.heap.size w w' := by
  obtain ⟨vg, vm, vk, rfl, hg, hm, hk⟩ := h
  obtain ⟨Ag, cg, rfl, hg1, hg2⟩ : ∃ A c, vg = .slice A F.gs.length c ∧ F.gs.length ≤ c ∧ c ≤ maxLen := by
    obtain ⟨vs, ⟨A, c, e, a, b, _⟩, _⟩ := hg
    exact ⟨A, c, e, a, b⟩
  obtain ⟨Am, cm, rfl⟩ := SlM.form hm
  obtain ⟨Ak, ck, rfl⟩ := SlM.form hk
  have HM := Lib.hid hm
  have HK := Lib.hid hk
  have cmc := hm.caps
  have ckc := hk.caps
  unfold maxLen at cmc ckc
  have HT : Hid (tablesE F = if scan (mapE F) F.map.length = 0 then scan (kernE F) F.kern.length else scan (mapE F) F.map.length) := rfl
  have HB0 : Hid (∀ o, Below w.heap.size w (w.alloc o)) := fun o => (Below.refl _ _).alloc (Nat.le_refl _) o
  generalize F.unit = un at *
  generalize hnm : F.map.length = nm at *
  generalize hnk : F.kern.length = nk at *
  generalize hng : F.gs.length = N at *
  have HNm := Lib.hid hnm
  have HNk := Lib.hid hnk
  have HNg := Lib.hid hng
  generalize hw1 : w.alloc (.cells #[.int .i64 un, .slice Ag N cg, .slice Am nm cm, .slice Ak nk ck] 26) = w1
  have HB1 : Hid (Below w.heap.size w w1) := by rw [← hw1]; exact HB0.out _
  have HBk : Hid (Blk w1 w.heap.size 26 #[.int .i64 un, .slice Ag N cg, .slice Am nm cm, .slice Ak nk ck]) := by rw [← hw1]; exact Blk.new w _ _
  have k1 := HBk.out.cell 1
  have k2 := HBk.out.cell 2
  have k3 := HBk.out.cell 3
  simp at k1 k2 k3
  clear hm hk hg hnm hnk hng
  go_enter Tryd.func43, Tryd.ntmps43
  go_wp2
  go_loopw [3, 4, 10] (fun _ _ vi wr => ∃ i : Nat, i ≤ nm ∧ vi = .int .i64 i ∧ scan (mapE F) i = 0 ∧ Below w1.heap.size w1 wr) (fun _ _ i _ => nm - (intOf i).toNat)
  case atStart => exact ⟨0, by omega, rfl, rfl, Below.refl _ _⟩
  case round =>
    obtain ⟨i, hi, rfl, hsc, hbl⟩ := hrel
    have HB := Lib.hid hbl
    have HS := Lib.hid hsc
    have HBw : Hid (Below w.heap.size w wr) := HB1.out.trans (hbl.mono HB1.out.size)
    have q1 := (hbl.cell (p := ⟨w.heap.size, 1, none⟩) HBk.out.lt).trans k1
    have q2 := (hbl.cell (p := ⟨w.heap.size, 2, none⟩) HBk.out.lt).trans k2
    have q3 := (hbl.cell (p := ⟨w.heap.size, 3, none⟩) HBk.out.lt).trans k3
    by_cases hlt : i < nm
    · have hM' : SlM w ok (.slice Am nm cm) F.map.length (F.map.flatMap rgc) := by rw [HNm.out]; exact HM.out
      obtain ⟨b, off, cap, ev, _, hb, _, _, hcell⟩ := rgs_cells hM' (by rw [HNm.out]; omega)
      clear hM'
      injection ev with e1 e2 e3
      subst e1 e3
      clear e2
      rw [HNm.out] at hcell
      have HC := Lib.hid hcell
      obtain ⟨d0, d1, d2⟩ := hcell i hlt
      replace d0 := (HBw.out.cell (p := ⟨b, off + i * 3, none⟩) hb).trans d0
      replace d1 := (HBw.out.cell (p := ⟨b, off + i * 3 + 1, none⟩) hb).trans d1
      replace d2 := (HBw.out.cell (p := ⟨b, off + i * 3 + 2, none⟩) hb).trans d2
      have HP : Hid (mapE F i = (if decide ((rg F i).lo < 0) || (decide ((rg F i).hi < (rg F i).lo) || decide (1114111 < (rg F i).hi)) then 3
        else if decide ((rg F i).g < 0) || (decide ((F.gs.length : Int) ≤ (rg F i).g) || decide ((F.gs.length : Int) ≤ (rg F i).g + (rg F i).hi - (rg F i).lo)) then 8
        else if decide (0 < i) && decide ((rg F i).lo ≤ (rg F (i - 1)).hi) then 18 else 0)) := rfl
      have HA : Hid (∀ e : Int, mapE F i = e → e ≠ 0 → tablesE F = e) := fun e h1 h2 => by
        have : scan (mapE F) nm = e := by rw [← h1]; exact scan_at hlt HS.out (by rw [h1]; exact h2)
        rw [HT.out, this, if_neg h2]
      have HZ : Hid (mapE F i = 0 → scan (mapE F) (i + 1) = 0) := fun h1 => by rw [scan_succ HS.out]; exact h1
      rw [HNg.out] at HP
      have hrg : F.map.getD i default = rg F i := rfl
      rw [hrg] at d0 d1 d2
      clear hbl hsc hcell hrg k1 k2 k3
      generalize rg F i = x at *
      obtain ⟨lo, hi', gg⟩ := x
      dsimp only at d0 d1 d2
      have hl1 : w.heap.size < wr.heap.size := Nat.lt_of_lt_of_le HBk.out.lt HB.out.size
      replace q1 := (cell_lt wr (.cells #[.int .i64 lo, .int .i64 hi', .int .i64 gg] 49) ⟨w.heap.size, 1, none⟩ hl1).trans q1
      replace q2 := (cell_lt wr (.cells #[.int .i64 lo, .int .i64 hi', .int .i64 gg] 49) ⟨w.heap.size, 2, none⟩ hl1).trans q2
      have hBx : Hid (∀ o, Below w1.heap.size w1 (wr.alloc o)) := fun o => HB.out.alloc HB.out.size o
      have hBy : Hid (∀ o, Below w.heap.size w (wr.alloc o)) := fun o => HBw.out.alloc HBw.out.size o
      by_cases hA : lo < 0 ∨ hi' < lo ∨ 1114111 < hi'
      · have HP3 : Hid (mapE F i = 3) := by unfold Hid; rw [HP.out, if_pos (by simpa using hA)]
        clear HP
        by_cases h1 : lo < 0
        · go_wp2
          go_ret
          exact ⟨endInt (HA.out 3 HP3.out (by decide)).symm, hBy.out _⟩
        · by_cases h2 : hi' < lo
          · go_wp2
            go_ret
            exact ⟨endInt (HA.out 3 HP3.out (by decide)).symm, hBy.out _⟩
          · have h3 : 1114111 < hi' := by omega
            go_wp2
            go_ret
            exact ⟨endInt (HA.out 3 HP3.out (by decide)).symm, hBy.out _⟩
      · have a1 : ¬ lo < 0 := fun e => hA (.inl e)
        have a2 : ¬ hi' < lo := fun e => hA (.inr (.inl e))
        have a3 : ¬ 1114111 < hi' := fun e => hA (.inr (.inr e))
        by_cases hBc : gg < 0 ∨ (N : Int) ≤ gg ∨ (N : Int) ≤ gg + hi' - lo
        · have HP8 : Hid (mapE F i = 8) := by unfold Hid; rw [HP.out, if_neg (by simpa using hA), if_pos (by simpa using hBc)]
          clear HP hA
          by_cases h1 : gg < 0
          · go_wp2
            go_ret
            exact ⟨endInt (HA.out 8 HP8.out (by decide)).symm, hBy.out _⟩
          · by_cases h2 : (N : Int) ≤ gg
            · go_wp2
              go_ret
              exact ⟨endInt (HA.out 8 HP8.out (by decide)).symm, hBy.out _⟩
            · have h3 : (N : Int) ≤ gg + hi' - lo := by omega
              go_wp2
              go_ret
              exact ⟨endInt (HA.out 8 HP8.out (by decide)).symm, hBy.out _⟩
        · have c1 : ¬ gg < 0 := fun e => hBc (.inl e)
          have c2 : ¬ (N : Int) ≤ gg := fun e => hBc (.inr (.inl e))
          have c3 : ¬ (N : Int) ≤ gg + hi' - lo := fun e => hBc (.inr (.inr e))
          have HP2 : Hid (mapE F i = if decide (0 < i) && decide (lo ≤ (rg F (i - 1)).hi) then 18 else 0) := by unfold Hid; rw [HP.out, if_neg (by simpa using hA), if_neg (by simpa using hBc)]
          clear HP hA hBc
          have HZZ : Hid (∀ o : Obj, ∀ nq, Below w1.heap.size w1 ((wr.alloc o).drewN nq)) := fun o nq => below_drewN (hBx.out o) nq
          have HZY : Hid (∀ o : Obj, ∀ nq, Below w.heap.size w ((wr.alloc o).drewN nq)) := fun o nq => below_drewN (hBy.out o) nq
          by_cases hi0 : 0 < i
          · obtain ⟨j, rfl⟩ : ∃ j, i = j + 1 := ⟨i - 1, by omega⟩
            obtain ⟨_, d5, _⟩ := HC.out j (by omega)
            replace d5 := (HBw.out.cell (p := ⟨b, off + j * 3 + 1, none⟩) hb).trans d5
            have hrj : (F.map.getD j default).hi = (rg F (j + 1 - 1)).hi := rfl
            rw [hrj] at d5
            generalize (rg F (j + 1 - 1)).hi = ph at *
            replace d5 := (cell_lt wr (.cells #[.int .i64 lo, .int .i64 hi', .int .i64 gg] 49) ⟨b, off + j * 3 + 1, none⟩ (Nat.lt_of_lt_of_le hb HBw.out.size)).trans d5
            have e1 : (j : Int) + 1 - 1 = (j : Int) := by omega
            have g0 : decide ((0 : Int) < (j : Int) + 1) = true := decide_eq_true (by omega)
            by_cases hph : lo ≤ ph
            · have HP18 : Hid (mapE F (j + 1) = 18) := by unfold Hid; rw [HP2.out, decide_eq_true hph]; simp
              clear HP2
              go_wp2
              go_quiet (fail)
              go_wp2
              go_ret
              exact ⟨endInt (HA.out 18 HP18.out (by decide)).symm, HZY.out _ _⟩
            · have HP0 : Hid (mapE F (j + 1) = 0) := by unfold Hid; rw [HP2.out, decide_eq_false hph]; simp
              clear HP2
              go_wp2
              go_quiet (fail)
              go_wp2
              go_roundw
              case rel => exact ⟨j + 1 + 1, by omega, by go_num, HZ.out HP0.out, HZZ.out _ _⟩
              case measure => simp [intOf]; omega
          · obtain rfl : i = 0 := by omega
            have HP0 : Hid (mapE F 0 = 0) := by unfold Hid; rw [HP2.out]; simp
            rw [Nat.zero_mul, Nat.add_zero] at d0 d1 d2
            clear HP2
            go_wp2
            go_quiet (fail)
            go_wp2
            go_roundw
            case rel => exact ⟨1, by omega, by go_num, HZ.out HP0.out, HZZ.out _ _⟩
            case measure => simp [intOf]; omega
    · obtain rfl : i = nm := by omega
      have HT2 : Hid (tablesE F = scan (kernE F) nk) := by unfold Hid; rw [HT.out, if_pos HS.out]
      clear hbl hsc k1 k2 k3
      go_wp2
      rename_i wr1 _ _
      have HBwr := Lib.hid HB.out
      go_loopw [5, 6, 76] (fun _ _ vi wq => ∃ i : Nat, i ≤ nk ∧ vi = .int .i64 i ∧ scan (kernE F) i = 0 ∧ Below w1.heap.size w1 wq) (fun _ _ i _ => nk - (intOf i).toNat)
      case atStart => exact ⟨0, by omega, rfl, rfl, HB.out⟩
      case round =>
        obtain ⟨i, hi, rfl, hsc, hbl⟩ := hrel
        have HB' := Lib.hid hbl
        have HS' := Lib.hid hsc
        by_cases hlt : i < nk
        · have hK' : SlM w ok (.slice Ak nk ck) F.kern.length (F.kern.flatMap kpc) := by rw [HNk.out]; exact HK.out
          obtain ⟨b, off, cap, ev, _, hb, _, _, hcell⟩ := kps_cells hK' (by rw [HNk.out]; omega)
          injection ev with e1 e2 e3
          subst e1 e3
          clear e2 hK'
          rw [HNk.out] at hcell
          have HC := Lib.hid hcell
          have HBq : Hid (Below w.heap.size w wr) := HB1.out.trans (hbl.mono HB1.out.size)
          obtain ⟨d0, d1, d2⟩ := hcell i hlt
          replace d0 := (HBq.out.cell (p := ⟨b, off + i * 3, none⟩) hb).trans d0
          replace d1 := (HBq.out.cell (p := ⟨b, off + i * 3 + 1, none⟩) hb).trans d1
          replace d2 := (HBq.out.cell (p := ⟨b, off + i * 3 + 2, none⟩) hb).trans d2
          have HP : Hid (kernE F i = (if decide ((kp F i).l < 0) || (decide ((F.gs.length : Int) ≤ (kp F i).l) || (decide ((kp F i).r < 0) || decide ((F.gs.length : Int) ≤ (kp F i).r))) then 8
            else if decide ((kp F i).by_ = 0) || far (kp F i).by_ then 3
            else if decide (0 < i) && decide (0 ≤ pairC (kp F (i - 1)) (kp F i)) then 18 else 0)) := rfl
          have HA : Hid (∀ e : Int, kernE F i = e → e ≠ 0 → tablesE F = e) := fun e h1 h2 => by
            rw [HT2.out, ← h1]; exact scan_at hlt HS'.out (by rw [h1]; exact h2)
          have HZ : Hid (kernE F i = 0 → scan (kernE F) (i + 1) = 0) := fun h1 => by rw [scan_succ HS'.out]; exact h1
          rw [HNg.out] at HP
          have hkp : F.kern.getD i default = kp F i := rfl
          rw [hkp] at d0 d1 d2
          have hl1 : w.heap.size < wr.heap.size := Nat.lt_of_lt_of_le HBk.out.lt HB'.out.size
          have p1 := (HB'.out.cell (p := ⟨w.heap.size, 1, none⟩) HBk.out.lt).trans ((HBk.out.cell 1).trans rfl)
          have p3 := (HB'.out.cell (p := ⟨w.heap.size, 3, none⟩) HBk.out.lt).trans ((HBk.out.cell 3).trans rfl)
          clear hbl hsc hcell hkp q1 q2 q3
          generalize kp F i = x at *
          obtain ⟨kl, kr, kb⟩ := x
          dsimp only at d0 d1 d2
          replace p1 := (cell_lt wr (.cells #[.int .i64 kl, .int .i64 kr, .int .i64 kb] 35) ⟨w.heap.size, 1, none⟩ hl1).trans p1
          replace p3 := (cell_lt wr (.cells #[.int .i64 kl, .int .i64 kr, .int .i64 kb] 35) ⟨w.heap.size, 3, none⟩ hl1).trans p3
          have hBx : Hid (∀ o, Below w1.heap.size w1 (wr.alloc o)) := fun o => HB'.out.alloc HB'.out.size o
          have hBy : Hid (∀ o, Below w.heap.size w (wr.alloc o)) := fun o => HBq.out.alloc HBq.out.size o
          by_cases hA : kl < 0 ∨ (N : Int) ≤ kl ∨ kr < 0 ∨ (N : Int) ≤ kr
          · have HP8 : Hid (kernE F i = 8) := by unfold Hid; rw [HP.out, if_pos (by simpa using hA)]
            clear HP
            by_cases h1 : kl < 0
            · go_wp2
              go_ret
              exact ⟨endInt (HA.out 8 HP8.out (by decide)).symm, hBy.out _⟩
            · by_cases h2 : (N : Int) ≤ kl
              · go_wp2
                go_ret
                exact ⟨endInt (HA.out 8 HP8.out (by decide)).symm, hBy.out _⟩
              · by_cases h3 : kr < 0
                · go_wp2
                  go_ret
                  exact ⟨endInt (HA.out 8 HP8.out (by decide)).symm, hBy.out _⟩
                · have h4 : (N : Int) ≤ kr := by omega
                  go_wp2
                  go_ret
                  exact ⟨endInt (HA.out 8 HP8.out (by decide)).symm, hBy.out _⟩
          · have a1 : ¬ kl < 0 := fun e => hA (.inl e)
            have a2 : ¬ (N : Int) ≤ kl := fun e => hA (.inr (.inl e))
            have a3 : ¬ kr < 0 := fun e => hA (.inr (.inr (.inl e)))
            have a4 : ¬ (N : Int) ≤ kr := fun e => hA (.inr (.inr (.inr e)))
            by_cases hb0 : kb = 0
            · have HP3 : Hid (kernE F i = 3) := by unfold Hid; rw [HP.out, if_neg (by simpa using hA), if_pos (by simp [hb0])]
              clear HP hA
              subst hb0
              go_wp2
              go_ret
              exact ⟨endInt (HA.out 3 HP3.out (by decide)).symm, hBy.out _⟩
            · cases hf : far kb with
              | true =>
                have HF := Lib.hid (far_is hf)
                have HP3 : Hid (kernE F i = 3) := by unfold Hid; rw [HP.out, if_neg (by simpa using hA), if_pos (by simp [hf])]
                clear HP hA hf
                go_wp2_with ((with_reducible refine (HF.out _).mono ?_); rintro e w' ⟨rfl, rfl⟩)
                go_ret
                exact ⟨endInt (HA.out 3 HP3.out (by decide)).symm, hBy.out _⟩
              | false =>
                have HF := Lib.hid (far_is hf)
                have HP2 : Hid (kernE F i = if decide (0 < i) && decide (0 ≤ pairC (kp F (i - 1)) ⟨kl, kr, kb⟩) then 18 else 0) := by unfold Hid; rw [HP.out, if_neg (by simpa using hA), if_neg (by simp [hf, hb0])]
                clear HP hA hf
                go_wp2_with ((with_reducible refine (HF.out _).mono ?_); rintro e w' ⟨rfl, rfl⟩)
                by_cases hi0 : 0 < i
                · obtain ⟨j, rfl⟩ : ∃ j, i = j + 1 := ⟨i - 1, by omega⟩
                  obtain ⟨f0, f1, f2⟩ := HC.out j (by omega)
                  replace f0 := (HBq.out.cell (p := ⟨b, off + j * 3, none⟩) hb).trans f0
                  replace f1 := (HBq.out.cell (p := ⟨b, off + j * 3 + 1, none⟩) hb).trans f1
                  replace f2 := (HBq.out.cell (p := ⟨b, off + j * 3 + 2, none⟩) hb).trans f2
                  have hlb : b < wr.heap.size := Nat.lt_of_lt_of_le hb HBq.out.size
                  replace f0 := (cell_lt wr (.cells #[.int .i64 kl, .int .i64 kr, .int .i64 kb] 35) ⟨b, off + j * 3, none⟩ hlb).trans f0
                  replace f1 := (cell_lt wr (.cells #[.int .i64 kl, .int .i64 kr, .int .i64 kb] 35) ⟨b, off + j * 3 + 1, none⟩ hlb).trans f1
                  replace f2 := (cell_lt wr (.cells #[.int .i64 kl, .int .i64 kr, .int .i64 kb] 35) ⟨b, off + j * 3 + 2, none⟩ hlb).trans f2
                  have hkj : F.kern.getD j default = kp F (j + 1 - 1) := rfl
                  rw [hkj] at f0 f1 f2
                  have HPa := Lib.hid (fun W => pairs_any (kp F (j + 1 - 1)) ⟨kl, kr, kb⟩ W)
                  unfold kpv at HPa
                  generalize pairC (kp F (j + 1 - 1)) ⟨kl, kr, kb⟩ = pc at *
                  generalize kp F (j + 1 - 1) = y at *
                  obtain ⟨yl, yr, yb⟩ := y
                  dsimp only at f0 f1 f2 HPa
                  have e1 : (j : Int) + 1 - 1 = (j : Int) := by omega
                  have g0 : decide ((0 : Int) < (j : Int) + 1) = true := decide_eq_true (by omega)
                  have hbz := hBx.out (.cells #[.int .i64 kl, .int .i64 kr, .int .i64 kb] 35)
                  have hbw := hBy.out (.cells #[.int .i64 kl, .int .i64 kr, .int .i64 kb] 35)
                  have HZx := Lib.hid hbz
                  have HZw := Lib.hid hbw
                  clear hbz hbw
                  have n8 := Blk.new wr 35 #[.int .i64 kl, .int .i64 kr, .int .i64 kb]
                  have m0 := n8.cell 0
                  have m1 := n8.cell 1
                  have m2 := n8.cell 2
                  simp only [List.getElem?_toArray, List.getElem?_cons_zero, List.getElem?_cons_succ] at m0 m1 m2
                  clear n8 hBx hBy
                  generalize wr.alloc (.cells #[.int .i64 kl, .int .i64 kr, .int .i64 kb] 35) = w8 at *
                  have ew : IntKind.i64.wrap (j : Int) = (j : Int) := IntWalk.i64_in _ (by omega)
                  have ew0 : 0 ≤ (j : Int) := by omega
                  have ew1 : (j : Int) < (nk : Int) := by omega
                  go_still_tail 10, (by kernel_rfl)
                  change wpList _ _ _ _ _ w8.drew
                  by_cases hpc : 0 ≤ pc
                  · have HP18 : Hid (kernE F (j + 1) = 18) := by unfold Hid; rw [HP2.out, decide_eq_true hpc]; simp
                    go_wp2_with (go_at_call 68; refine (HPa.out _).mono ?_; rintro e w5 ⟨rfl, hb5⟩)
                    go_ret
                    exact ⟨endInt (HA.out 18 HP18.out (by decide)).symm, HZw.out.trans (((Below.refl w8.heap.size w8).drew.trans hb5).mono HZw.out.size)⟩
                  · have HP0 : Hid (kernE F (j + 1) = 0) := by unfold Hid; rw [HP2.out, decide_eq_false hpc]; simp
                    go_wp2_with (go_at_call 68; refine (HPa.out _).mono ?_; rintro e w5 ⟨rfl, hb5⟩)
                    go_roundw
                    case rel => exact ⟨j + 1 + 1, by omega, by go_num, HZ.out HP0.out, HZx.out.trans (((Below.refl w8.heap.size w8).drew.trans hb5).mono HZx.out.size)⟩
                    case measure => simp [intOf]; omega
                · obtain rfl : i = 0 := by omega
                  have HP0 : Hid (kernE F 0 = 0) := by unfold Hid; rw [HP2.out]; simp
                  rw [Nat.zero_mul, Nat.add_zero] at d0 d1 d2
                  go_quiet (fail)
                  go_wp2
                  go_roundw
                  case rel => exact ⟨1, by omega, by go_num, HZ.out HP0.out, below_drewN (hBx.out _) _⟩
                  case measure => simp [intOf]; omega
        · obtain rfl : i = nk := by omega
          go_wp2
          go_ret
          exact ⟨endInt (by rw [HT2.out, HS'.out]), HB1.out.trans (HB'.out.mono HB1.out.size)⟩
end Go.Proofs.YtefkglmdkjkbiaaDoor
