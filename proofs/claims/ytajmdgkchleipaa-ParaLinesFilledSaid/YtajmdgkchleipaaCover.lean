/- The walk of ParaLinesCoverWords. -/
import Derived.Test.YtajmdgkchleipaaZero
import Derived.Test.YtajmdgkchleipaaTens
import Derived.Test.YtajmdgkchleipaaLines
namespace Go.Proofs.Ytajmdgkchleipaa
open Go.RowKit Para
/-- The words, or none. -/
def Wds (w : World) (A : Option Addr) (ws : List Wd) : Prop := ws = [] ∨ (0 < ws.length ∧ ∃ b off, A = some ⟨b, off, none⟩ ∧ WordsIn w b off ws)
theorem Wds.later {w w' : World} {A : Option Addr} {ws : List Wd} (h : Wds w A ws) (hb : Below w.heap.size w w') : Wds w' A ws := by
  rcases h with h | ⟨hn, b, off, hA, h⟩
  · exact .inl h
  · exact .inr ⟨hn, b, off, hA, h.later hb⟩
theorem break_all (A : Option Addr) (c : Nat) (ws : List Wd) (s : Shape) (w : World) (hW : Wds w A ws) (hm : ws.length ≤ 9223372036854775807) :
    Calls Try.prog 7 #[.slice A ws.length c, .agg #[.int .i64 s.W, .int .i64 s.S, .int .i64 s.Lo, .int .i64 s.Mo, .int .i64 s.H, .int .i64 s.C]] w (BrkPost ws s w) := by
  rcases hW with rfl | ⟨hn, b, off, rfl, h⟩
  · exact break_zero A c s w
  · exact break_any b off c ws s w h hn hm
theorem eBool : ElemT Try.prog 30 4 (.bool false) 1 := ElemT.mk_ Try.underlying30 (by kernel_rfl) rfl
def bools (l : List Part) : List Value := l.map fun p => Value.bool p.last
theorem bools_append (a b : List Part) : bools (a ++ b) = bools a ++ bools b := by simp [bools]
theorem bools_length (l : List Part) : (bools l).length = l.length := by simp [bools]
def LastRel (w : World) (l : List Part) (vo : Value) (wr : World) : Prop := wr.ownsRow w.heap.size 4 1 vo l.length (bools l) ∧ Below w.heap.size w wr
def CoverPost (w : World) (e : Ending) (w' : World) : Prop := e = .returned (.bool true) ∧ Below w.heap.size w w'
set_option maxHeartbeats 4000000 in
set_option maxRecDepth 100000 in
theorem cover_any (A : Option Addr) (c : Nat) (ws : List Wd) (s : Shape) (w : World) (hW : Wds w A ws) (hm : ws.length ≤ 9223372036854775807) :
    Calls Try.prog 3 #[.slice A ws.length c, .agg #[.int .i64 s.W, .int .i64 s.S, .int .i64 s.Lo, .int .i64 s.Mo, .int .i64 s.H, .int .i64 s.C]] w (CoverPost w) := by
  have hb0 := (Below.refl w.heap.size w).alloc (Nat.le_refl _) (Obj.cells #[.int .i64 s.W, .int .i64 s.S, .int .i64 s.Lo, .int .i64 s.Mo, .int .i64 s.H, .int .i64 s.C] 24)
  have HT := Lib.hid (breaks_any (w.alloc (Obj.cells #[.int .i64 s.W, .int .i64 s.S, .int .i64 s.Lo, .int .i64 s.Mo, .int .i64 s.H, .int .i64 s.C] 24)))
  have hBr : Hid (∀ w1, Below w.heap.size w w1 → Calls Try.prog 7 #[.slice A ws.length c, .agg #[.int .i64 s.W, .int .i64 s.S, .int .i64 s.Lo, .int .i64 s.Mo, .int .i64 s.H, .int .i64 s.C]] w1 (BrkPost ws s w1)) := fun w1 hb => break_all A c ws s w1 (hW.later hb) hm
  have HW := Lib.hid hW
  have HB0 := Lib.hid hb0
  have HNw := Lib.hid hm
  have HX0 := Lib.hid (Blk.new w 24 #[.int .i64 s.W, .int .i64 s.S, .int .i64 s.Lo, .int .i64 s.Mo, .int .i64 s.H, .int .i64 s.C])
  clear hW hb0
  generalize hnn : ws.length = nw at *
  have HN := Lib.hid hnn
  clear hnn
  go_enter Try.func3, Try.ntmps3
  go_wp2_with fail
  refine HT.out.mono ?_; rintro e w1 ⟨rfl, hb1⟩
  have hX1 := Blk.below HX0.out hb1 (by simp)
  have x0 := Blk.cell hX1 0
  have x1 := Blk.cell hX1 1
  have x2 := Blk.cell hX1 2
  have x3 := Blk.cell hX1 3
  have x4 := Blk.cell hX1 4
  have x5 := Blk.cell hX1 5
  have x := Blk.lt hX1
  have HB1 := Lib.hid (HB0.out.trans (hb1.mono HB0.out.size))
  have HBr := Lib.hid (hBr.out w1 HB1.out)
  clear hX1 hBr hb1 HT
  simp only [List.getElem?_toArray, List.getElem?_cons_zero, List.getElem?_cons_succ] at x0 x1 x2 x3 x4 x5
  go_wp2_with fail
  refine HBr.out.mono ?_; rintro e w2 ⟨hb2, h | ⟨hg, b', Ao, co, hbest, rfl, hl⟩⟩
  · obtain ⟨z, hz, rfl, _⟩ := h
    have HB2 := Lib.hid (HB1.out.trans (hb2.mono HB1.out.size))
    clear hb2 x0 x1 x2 x3 x4 x5 x
    go_wp2
    go_ret
    exact ⟨rfl, HB2.out⟩
  · have HB2 := Lib.hid (HB1.out.trans (hb2.mono HB1.out.size))
    have HLi := Lib.hid hl
    have HG := Lib.hid hg
    have HBest := Lib.hid hbest
    have HW2 := Lib.hid (HW.out.later HB2.out)
    clear hb2 hl hg hbest x0 x1 x2 x3 x4 x5 x
    generalize b'.1 = bz at *
    go_wp2
    go_loopw [8, 33] (fun vo vi wr => ∃ j : Nat, j ≤ nw ∧ vi = .int .i64 j ∧ LastRel w2 (flatW (ws.take j)) vo wr) (fun _ i _ => nw - (intOf i).toNat)
    case atStart => exact ⟨0, by omega, rfl, ⟨rfl, .inl ⟨rfl, rfl⟩⟩, Below.refl _ _⟩
    case round =>
      obtain ⟨j, hj, rfl, hrel⟩ := hrel
      by_cases hlt : j < nw
      · obtain ⟨hn0, bW, oW, rfl, hWI⟩ : 0 < ws.length ∧ ∃ b off, A = some ⟨b, off, none⟩ ∧ WordsIn w2 b off ws := by
          rcases HW2.out with h | h
          · have := HN.out; rw [h] at this; simp at this; omega
          · exact h
        obtain ⟨A1, cA, Bq, cB, h1, h2, h3, h4⟩ := hWI.cell j (by rw [HN.out]; exact hlt)
        have g1 := (hrel.2.cell (p := ⟨bW, oW + j * 2, none⟩) hWI.lt).trans h1
        have g2 := (hrel.2.cell (p := ⟨bW, oW + j * 2 + 1, none⟩) hWI.lt).trans h2
        have HS := Lib.hid (flatW_succ ws j (by rw [HN.out]; exact hlt))
        have hle : (flatW (ws.take j)).length + (wdAt ws j).parts.length ≤ 256 := by
          have := HG.out.tot (j + 1) (by rw [HN.out]; omega)
          rw [HS.out, List.length_append, wordParts_length] at this; exact this
        obtain ⟨hpm, hjm⟩ := hWI.big j (by rw [HN.out]; exact hlt)
        have HF := Lib.hid hrel
        clear h1 h2 h3 h4 hWI hrel hn0
        generalize flatW (ws.take j) = L at *
        generalize wdAt ws j = x at *
        generalize hpl : x.parts.length = m at *
        have HPL := Lib.hid hpl
        clear hpl
        generalize x.joins.length = mj at *
        go_wp2
        obtain ⟨wo, rfl⟩ : ∃ wo : World, wo = wr := ⟨_, rfl⟩
        go_loopw [8, 11, 40] (fun vo _ vi wi => ∃ i : Nat, i ≤ m ∧ vi = .int .i64 i ∧ LastRel w2 (L ++ partsTo x i) vo wi ∧ Blk wi wo.heap.size 33 #[Value.slice A1 m cA, Value.slice Bq mj cB] ∧ vo.ownBlock ≠ some wo.heap.size) (fun _ _ i _ => m - (intOf i).toNat)
        case atStart =>
          refine ⟨0, by omega, rfl, ?_, Blk.new _ _ _, fun e => by have := (own_lt HF.out.1 _ e).2; omega⟩
          simp only [partsTo, List.range_zero, List.map_nil, List.append_nil]
          exact ⟨HF.out.1.alloc _, HF.out.2.alloc HF.out.2.size _⟩
        case round =>
          obtain ⟨i, hi, rfl, hrel, hB, hne⟩ := hrel
          have HR := Lib.hid hrel
          by_cases him : i < m
          · have b0 : wr.cell? ⟨wo.heap.size, 0, none⟩ = some (.slice A1 m cA) := hB.cell 0
            have b1 : wr.cell? ⟨wo.heap.size, 1, none⟩ = some (.slice Bq mj cB) := hB.cell 1
            have hlt2 : wo.heap.size < wr.heap.size := hB.lt
            have f2 : ((i : Int) == (m : Int) - 1) = decide (i + 1 = m) := by rw [Bool.eq_iff_iff]; simp; omega
            have HPa : Hid ((partAt x i).last = decide (i + 1 = m)) := by unfold Hid partAt; rw [HPL.out]
            have hlen : (L ++ partsTo x i).length ≤ 256 := by simp [partsTo]; omega
            generalize hLL : L ++ partsTo x i = LL at *
            have HLL := Lib.hid hLL
            have HB := Lib.hid hB
            have HNe := Lib.hid hne
            clear hB hrel hne hLL
            generalize decide (i + 1 = m) = bl at *
            go_wp2_with (at_builtin; go_must (refine wpList_push eBool rfl (.tmp 43) (.tmp 50) rfl w2.heap.size u8 LL.length _ rfl (HR.out.1.alloc _) ⟨wr.heap.size, 0, none⟩ 1 (.bool bl) rfl (new_one _ _ _) rfl (by omega) (by omega) (le_alloc HR.out.2.size _) ?_; intro v' w3 hown1 hg1 hk1))
            go_roundw
            case rel =>
              refine ⟨i + 1, by omega, by go_num, ⟨?_, ?_⟩, (HB.out.alloc _).grown hg1 (Ne.symm HNe.out), ?_⟩
              · rw [partsTo_succ, ← List.append_assoc, HLL.out, bools_append, List.length_append, show bools [partAt x i] = [Value.bool bl] by rw [bools, List.map_singleton, HPa.out]]
                exact hown1
              · exact (HR.out.2.alloc HR.out.2.size _).grown hg1 (le_alloc HR.out.2.size _) fun k hk => (own_lt HR.out.1 k hk).1
              · rcases hk1 with e | e
                · rw [e]; exact HNe.out
                · rw [e]; simp; omega
            case measure => simp [intOf]; omega
          · obtain rfl : i = m := by omega
            clear hrel hB hne
            go_wp2
            go_roundw
            case rel => exact ⟨j + 1, by omega, by go_num, by rw [HS.out, wordParts, HPL.out]; exact HR.out⟩
            case measure => simp [intOf]; omega
      · obtain rfl : j = nw := by omega
        rw [List.take_of_length_le (by rw [HN.out]; exact Nat.le_refl _)] at hrel
        obtain ⟨wl, rfl⟩ : ∃ wl : World, wl = wr := ⟨_, rfl⟩
        have hpos : ∀ x ∈ ws, 0 < x.parts.length := by
          intro x hx
          obtain ⟨i, hi, rfl⟩ := List.getElem_of_mem hx
          have := (HG.out.all i hi).ok.p0
          simpa [wdAt, List.getD_eq_getElem?_getD, List.getElem?_eq_getElem hi] using this
        have hff := Lib.hid (flat_first ws hpos).1
        have HOk := Lib.hid (flatW_ok HG.out.all)
        have hlf := lines_fact (s := s) (l := flatW ws) (by rw [HBest.out]; exact fun h => by cases h)
        have hln : (flatW ws).length ≤ 256 := by
          have := HG.out.tot ws.length (Nat.le_refl _)
          rwa [List.take_of_length_le (Nat.le_refl _)] at this
        have hLi := HLi.out.later hrel.2
        have HBL := Lib.hid hrel.2
        obtain ⟨Al, cl, rfl⟩ := own_form hrel.1
        have HBo : Hid (∀ i, i < (flatW ws).length → ∃ bL oL, Al = some ⟨bL, oL, none⟩ ∧ bL < wl.heap.size ∧ wl.cell? ⟨bL, oL + i, none⟩ = some (.bool (pt (flatW ws) i).last)) := fun i hi => by
          obtain ⟨bL, oL, hA, hlt, hc⟩ := (Sl.of_own hrel.1).plainA (by rw [bools_length]; omega)
          refine ⟨bL, oL, hA, hlt, hc i _ ?_⟩
          simp [bools, pt, List.getD_eq_getElem?_getD, List.getElem?_eq_getElem hi]
        have HLi := Lib.hid hLi
        have HL1 := Lib.hid hlf.1
        have HL2 := Lib.hid hlf.2
        clear hrel hLi hlf hpos HBest HG HW HW2 HBr
        generalize flatW ws = l at *
        generalize hnl : l.length = n at *
        have HNl := Lib.hid hnl
        clear hnl
        have HLl : Hid ((linesOf s l).length ≤ n) := by
          have := cuts_len s l l.length 0
          unfold Hid linesOf; rw [List.length_map]; rw [HNl.out] at this ⊢; exact this
        generalize hLL : linesOf s l = L at *
        have HLL := Lib.hid hLL
        clear hLL
        have hLln := HLl.out
        generalize hml : L.length = ml at *
        have HML := Lib.hid hml
        clear hml
        go_wp2
        go_loopw [12, 56] (fun va vi wr => ∃ t : Nat, t ≤ ml ∧ vi = .int .i64 t ∧ va = .int .i64 (startAt L t : Nat) ∧ Below wl.heap.size wl wr) (fun _ i _ => ml - (intOf i).toNat)
        case atStart => exact ⟨0, by omega, rfl, rfl, Below.refl _ _⟩
        case round =>
          obtain ⟨t, ht, rfl, rfl, hb⟩ := hrel
          by_cases htl : t < ml
          · obtain ⟨gL, cL, hv, hgl, hc⟩ := HLi.out.at_ (by rw [HML.out]; omega)
            injection hv with hA _ hcc
            subst hA
            obtain ⟨Ag, cg, d0, d1, d2, d3, _⟩ := hc t (by rw [HML.out]; exact htl)
            obtain ⟨l1, l2, l3, l4, l5⟩ := HL1.out t htl
            have e0 := (hb.cell (p := ⟨gL, t * 4, none⟩) hgl).trans d0
            have e1 := (hb.cell (p := ⟨gL, t * 4 + 1, none⟩) hgl).trans d1
            have e2 := (hb.cell (p := ⟨gL, t * 4 + 2, none⟩) hgl).trans d2
            have e3 := (hb.cell (p := ⟨gL, t * 4 + 3, none⟩) hgl).trans d3
            have HSt : Hid (startAt L (t + 1) = (lnAt L t).t) := rfl
            rw [l4] at e2 e3
            rw [← l1] at *
            have HB := Lib.hid hb
            clear hc d0 d1 d2 d3 hb l4 l5 hcc l1
            generalize (lnAt L t).f = f at *
            generalize (lnAt L t).t = tt at *
            obtain ⟨r, rfl⟩ : ∃ r, tt = r + 1 := ⟨tt - 1, by omega⟩
            obtain ⟨bL, oL, hA, hbL, hcb⟩ := HBo.out r (by omega)
            subst hA
            have e4 := (HB.out.cell (p := ⟨bL, oL + r, none⟩) hbL).trans hcb
            have e5 : wr.cell? ⟨gL, t * 4 + 2, none⟩ = some (.bool (!(pt l r).last)) := e2
            have e6 : wr.cell? ⟨gL, t * 4 + 3, none⟩ = some (.slice Ag (fixG (l.drop f) (r + 1 - f)).toNat cg) := by
              rw [e3, show (lnOf s l (f, r + 1)).gs.length = (fixG (l.drop f) (r + 1 - f)).toNat by simp [lnOf, gapsTo]]
            have z1 := Nat.lt_of_lt_of_le hgl HB.out.size
            have z2 := Nat.lt_of_lt_of_le hbL HB.out.size
            clear hcb e2 e3
            generalize (pt l r).last = lb at *
            have q1 : ((f : Int) != (f : Int)) = false := by simp
            have q2 : decide (((r : Int) + 1) ≤ (f : Int)) = false := by rw [decide_eq_false_iff_not]; omega
            have q3 : decide ((n : Int) < (r : Int) + 1) = false := by rw [decide_eq_false_iff_not]; omega
            go_wp2
            go_quiet (fail)
            go_wp2
            clear e0 e1 e5 q1 q2 q3
            go_loop [15, 16] (fun vg vi => ∃ m : Nat, m ≤ r - f ∧ vi = .int .i64 ((f + m : Nat) : Int) ∧ vg = .int .i64 (fixTo (l.drop f) (m + 1)).2) (fun _ i => r - (intOf i).toNat)
            case atStart => exact ⟨0, by omega, rfl, by simp [fixTo]⟩
            case round =>
              obtain ⟨m, hm2, rfl, rfl⟩ := hrel
              have hE1 : wr.cell? ⟨gL, t * 4 + 1, none⟩ = wr.cell? ⟨gL, t * 4 + 1, none⟩ := rfl
              obtain ⟨p, hp⟩ : ∃ p, p = f + m := ⟨_, rfl⟩
              rw [← hp]
              obtain ⟨bd0, bd1, bd2, bd3⟩ := fixTo_bd (HOk.out.drop f) (m + 1)
              clear bd0 bd1 hE1
              by_cases hml2 : m < r - f
              · obtain ⟨b2, o2, hA2, _, hcb2⟩ := HBo.out p (by omega)
                injection hA2 with hA2
                injection hA2 with a1 a2 _
                subst a1; subst a2
                have e7 := (HB.out.cell (p := ⟨bL, oL + p, none⟩) hbL).trans hcb2
                have hgs := gap_step l f m (by rw [HNl.out]; exact hff.out) (by rw [HNl.out]; omega)
                rw [← hp] at hgs
                clear hcb2
                generalize (pt l p).last = lb2 at *
                have HGS := Lib.hid hgs
                have HP := Lib.hid hp
                have hpr : p < r := by omega
                clear hgs hp
                generalize (fixTo (l.drop f) (m + 1)).2 = gg at *
                cases lb2
                · go_wp2
                  go_round
                  case rel => exact ⟨m + 1, by omega, valInt (by have := HP.out; omega), valInt (by rw [HGS.out]; simp)⟩
                  case measure => simp [intOf]; have := HP.out; omega
                · go_wp2
                  go_round
                  case rel => exact ⟨m + 1, by omega, valInt (by have := HP.out; omega), valInt (by rw [HGS.out]; simp)⟩
                  case measure => simp [intOf]; have := HP.out; omega
              · obtain rfl : p = r := by omega
                have hG : (fixTo (l.drop f) (m + 1)).2 = fixG (l.drop f) (p + 1 - f) := by unfold fixG; congr 2; omega
                have hG0 : Hid (0 ≤ fixG (l.drop f) (p + 1 - f)) := by unfold Hid; rw [← hG]; exact bd2
                rw [hG] at *
                generalize fixG (l.drop f) (p + 1 - f) = G at *
                obtain ⟨G, rfl⟩ := Int.eq_ofNat_of_zero_le hG0.out
                rw [Int.toNat_natCast] at e6
                have HP := Lib.hid hp
                clear hG hp
                go_wp2
                go_roundw
                case rel => exact ⟨t + 1, by omega, by go_num, valInt (by rw [HSt.out]; omega), below_drewN (HB.out.alloc HB.out.size _) _⟩
                case measure => simp [intOf]; omega
          · obtain rfl : t = ml := by omega
            have hend := HL2.out
            have HB := Lib.hid hb
            rw [hend]
            clear hb hend
            go_wp2
            go_ret
            exact ⟨rfl, HB2.out.trans ((HBL.out.trans (HB.out.mono HBL.out.size)).mono HB2.out.size)⟩
end Go.Proofs.Ytajmdgkchleipaa
