/- The walk of ParaLinesFilled. -/
import Derived.Test.YtajmdgkchleipaaCover
import Derived.Test.YtajmdgkchleipaaStart
namespace Go.Proofs.Ytajmdgkchleipaa
open Go.RowKit Para
theorem own_own_ne {w : World} {b1 b2 : Nat} {e1 e2 : TypeId} {s1 s2 n1 n2 : Nat} {v1 v2 : Value} {xs ys : List Value} (h1 : w.ownsRow b1 e1 s1 v1 n1 xs) (h2 : w.ownsRow b2 e2 s2 v2 n2 ys) (hne : e1 ≠ e2) : v1.ownBlock = none ∨ v1.ownBlock ≠ v2.ownBlock := by
  rcases h1.2 with ⟨rfl, _⟩ | ⟨g, cap, cur, rfl, _, hh, _⟩
  · exact .inl rfl
  · right
    rcases h2.2 with ⟨rfl, _⟩ | ⟨g', cap', cur', rfl, _, hh', _⟩
    · simp [Value.ownBlock]
    · intro e
      simp only [Value.ownBlock, Option.some.injEq] at e
      have e : g = g' := by simpa using e
      subst e
      rw [hh] at hh'
      injection hh' with hh'
      injection hh' with _ ht
      exact hne ht
theorem own_blk_ne_ {w : World} {base : Nat} {e : TypeId} {size n g : Nat} {t : TypeId} {cs : Array Value} {v : Value} {xs : List Value} (h : w.ownsRow base e size v n xs) (hg : Blk w g t cs) (hne : e ≠ t) : v.ownBlock ≠ some g := by
  rcases h.2 with ⟨rfl, _⟩ | ⟨g', cap, cur, rfl, _, hh, _⟩
  · simp [Value.ownBlock]
  · intro he
    have : g' = g := by simpa [Value.ownBlock] using he
    subst this
    unfold Blk at hg
    rw [hg] at hh
    injection hh with hh
    injection hh with _ ht
    exact hne ht.symm
def firsts (l : List Part) : List Value := l.map fun p => Value.bool p.first
def wjs (l : List Part) : List Value := ints (l.map wj)
theorem firsts_length (l : List Part) : (firsts l).length = l.length := by simp [firsts]
theorem wjs_length (l : List Part) : (wjs l).length = l.length := by simp [wjs, ints]
theorem firsts_append (a b : List Part) : firsts (a ++ b) = firsts a ++ firsts b := by simp [firsts]
theorem wjs_append (a b : List Part) : wjs (a ++ b) = wjs a ++ wjs b := by simp [wjs, ints]
structure FRel (w : World) (l : List Part) (v8 v9 : Value) (wr : World) : Prop where
  w8 : wr.ownsRow w.heap.size 3 1 v8 l.length (wjs l)
  w9 : wr.ownsRow w.heap.size 4 1 v9 l.length (firsts l)
  b : Below w.heap.size w wr
theorem FRel.alloc {w wr : World} {l : List Part} {v8 v9 : Value} (h : FRel w l v8 v9 wr) (o : Obj) : FRel w l v8 v9 (wr.alloc o) := ⟨h.w8.alloc _, h.w9.alloc _, h.b.alloc h.b.size _⟩
/-- Both rows pushed. -/
theorem FRel.push {w wr w3 w4 : World} {l : List Part} {v8 v9 v8' v9' : Value} {p : Part} {o1 o2 : Obj} (h : FRel w l v8 v9 wr) (h1 : w3.ownsRow w.heap.size 3 1 v8' (l.length + 1) (wjs l ++ [Value.int .i64 (wj p)])) (g1 : (wr.alloc o1).grownBy w3 v8.ownBlock)
    (h2 : w4.ownsRow w.heap.size 4 1 v9' (l.length + 1) (firsts l ++ [Value.bool p.first])) (g2 : (w3.alloc o2).grownBy w4 v9.ownBlock) : FRel w (l ++ [p]) v8' v9' w4 := by
  have k9 : w3.ownsRow w.heap.size 4 1 v9 l.length (firsts l) := (h.w9.alloc o1).kept g1 (own_own_ne h.w9 h.w8 (by decide))
  refine ⟨?_, ?_, ?_⟩
  · rw [List.length_append, wjs_append]; exact (h1.alloc o2).kept g2 (own_own_ne h1 k9 (by decide))
  · rw [List.length_append, firsts_append]; exact h2
  · have hb3 := (h.b.alloc h.b.size o1).grown g1 (le_alloc h.b.size _) (fun k hk => (own_lt h.w8 k hk).1)
    exact (hb3.alloc hb3.size o2).grown g2 (le_alloc hb3.size _) (fun k hk => (own_lt k9 k hk).1)
set_option maxHeartbeats 4000000 in
set_option maxRecDepth 100000 in
theorem filled_any (A : Option Addr) (c : Nat) (ws : List Wd) (s : Shape) (w : World) (hW : Wds w A ws) (hm : ws.length ≤ 9223372036854775807) :
    Calls Try.prog 4 #[.slice A ws.length c, .agg #[.int .i64 s.W, .int .i64 s.S, .int .i64 s.Lo, .int .i64 s.Mo, .int .i64 s.H, .int .i64 s.C]] w (CoverPost w) := by
  obtain ⟨wa, hwa⟩ : ∃ wa, wa = w.alloc (Obj.cells #[Value.slice A ws.length c] 22) := ⟨_, rfl⟩
  obtain ⟨wb, hwb⟩ : ∃ wb, wb = wa.alloc (Obj.cells #[.int .i64 s.W, .int .i64 s.S, .int .i64 s.Lo, .int .i64 s.Mo, .int .i64 s.H, .int .i64 s.C] 24) := ⟨_, rfl⟩
  have hs1 : wa.heap.size = w.heap.size + 1 := by rw [hwa]; simp
  have hb0 : Below w.heap.size w wb := by rw [hwb]; refine Below.alloc ?_ (by omega) _; rw [hwa]; exact (Below.refl w.heap.size w).alloc (Nat.le_refl _) _
  have hX : Blk wb w.heap.size 22 #[Value.slice A ws.length c] := by rw [hwb]; refine Blk.alloc ?_ _; rw [hwa]; exact Blk.new _ _ _
  have hY : Blk wb (w.heap.size + 1) 24 #[.int .i64 s.W, .int .i64 s.S, .int .i64 s.Lo, .int .i64 s.Mo, .int .i64 s.H, .int .i64 s.C] := by rw [hwb, ← hs1]; exact Blk.new _ _ _
  have HT := Lib.hid (breaks_any wb)
  rw [hwb, hwa] at HT
  have HWB := Lib.hid hwb
  rw [hwa] at HWB
  have hBr : Hid (∀ w1, Below w.heap.size w w1 → Calls Try.prog 7 #[.slice A ws.length c, .agg #[.int .i64 s.W, .int .i64 s.S, .int .i64 s.Lo, .int .i64 s.Mo, .int .i64 s.H, .int .i64 s.C]] w1 (BrkPost ws s w1)) := fun w1 hb => break_all A c ws s w1 (hW.later hb) hm
  have HW := Lib.hid hW
  have HB0 := Lib.hid hb0
  have HNw := Lib.hid hm
  have HX := Lib.hid hX
  have HY := Lib.hid hY
  clear hW hb0 hX hY hwb hwa hs1
  generalize hnn : ws.length = nw at *
  have HN := Lib.hid hnn
  clear hnn
  go_enter Try.func4, Try.ntmps4
  go_wp2_with fail
  refine HT.out.mono ?_; rintro e w1 ⟨rfl, hb1⟩
  rw [← HWB.out] at hb1
  have HX1 := Lib.hid (HX.out.below hb1 HX.out.lt)
  have HY1 := Lib.hid (HY.out.below hb1 HY.out.lt)
  have x0 := Blk.cell HY1.out 0
  have x1 := Blk.cell HY1.out 1
  have x2 := Blk.cell HY1.out 2
  have x3 := Blk.cell HY1.out 3
  have x4 := Blk.cell HY1.out 4
  have x5 := Blk.cell HY1.out 5
  have x := Blk.lt HY1.out
  have x6 := Blk.cell HX1.out 0
  have HB1 := Lib.hid (HB0.out.trans (hb1.mono HB0.out.size))
  have HBr := Lib.hid (hBr.out w1 HB1.out)
  clear hBr hb1 HT HX HY HWB HB0
  simp only [List.getElem?_toArray, List.getElem?_cons_zero, List.getElem?_cons_succ] at x0 x1 x2 x3 x4 x5 x6
  go_wp2_with fail
  refine HBr.out.mono ?_; rintro e w2 ⟨hb2, h | ⟨hg, b', Ao, co, hbest, rfl, hl⟩⟩
  · obtain ⟨z, hz, rfl, _⟩ := h
    have HB2 := Lib.hid (HB1.out.trans (hb2.mono HB1.out.size))
    clear hb2 x0 x1 x2 x3 x4 x5 x x6
    have hz' : (z != 0) = true := by simpa using hz
    go_wp2
    all_goals (go_ret; exact ⟨rfl, HB2.out⟩)
  · have HB2 := Lib.hid (HB1.out.trans (hb2.mono HB1.out.size))
    have HX2 := Lib.hid (HX1.out.below hb2 HX1.out.lt)
    have HY2 := Lib.hid (HY1.out.below hb2 HY1.out.lt)
    have HLi := Lib.hid hl
    have HG := Lib.hid hg
    have HBest := Lib.hid hbest
    have HW2 := Lib.hid (HW.out.later HB2.out)
    have y6 := Blk.cell HX2.out 0
    simp only [List.getElem?_toArray, List.getElem?_cons_zero] at y6
    have y := Blk.lt HY2.out
    clear hb2 hl hg hbest x0 x1 x2 x3 x4 x5 x x6
    generalize b'.1 = bz at *
    go_wp2
    go_loopw [8, 9, 37] (fun v8 v9 vi wr => ∃ j : Nat, j ≤ nw ∧ vi = .int .i64 j ∧ FRel w2 (flatW (ws.take j)) v8 v9 wr) (fun _ _ i _ => nw - (intOf i).toNat)
    case atStart => exact ⟨0, by omega, rfl, ⟨rfl, .inl ⟨rfl, rfl⟩⟩, ⟨rfl, .inl ⟨rfl, rfl⟩⟩, Below.refl _ _⟩
    case round =>
      obtain ⟨j, hj, rfl, hrel⟩ := hrel
      by_cases hlt : j < nw
      · obtain ⟨hn0, bW, oW, rfl, hWI⟩ : 0 < ws.length ∧ ∃ b off, A = some ⟨b, off, none⟩ ∧ WordsIn w2 b off ws := by
          rcases HW2.out with h | h
          · have := HN.out; rw [h] at this; simp at this; omega
          · exact h
        obtain ⟨A1, cA, Bq, cB, h1, h2, h3, h4⟩ := hWI.cell j (by rw [HN.out]; exact hlt)
        have g1 := (hrel.b.cell (p := ⟨bW, oW + j * 2, none⟩) hWI.lt).trans h1
        have g2 := (hrel.b.cell (p := ⟨bW, oW + j * 2 + 1, none⟩) hWI.lt).trans h2
        have HS := Lib.hid (flatW_succ ws j (by rw [HN.out]; exact hlt))
        have hle : (flatW (ws.take j)).length + (wdAt ws j).parts.length ≤ 256 := by
          have := HG.out.tot (j + 1) (by rw [HN.out]; omega)
          rw [HS.out, List.length_append, wordParts_length] at this; exact this
        have hgd := HG.out.all j (by rw [HN.out]; exact hlt)
        have hj0 := hgd.ok.j0
        have HGd := Lib.hid hgd
        have H3 := Lib.hid h3
        have H4 := Lib.hid h4
        have HF := Lib.hid hrel
        clear h1 h2 h3 h4 hWI hrel hn0 hgd y6
        generalize flatW (ws.take j) = L at *
        generalize wdAt ws j = x at *
        generalize hpl : x.parts.length = m at *
        have HPL := Lib.hid hpl
        generalize hjl : x.joins.length = mj at *
        have HJL := Lib.hid hjl
        clear hpl hjl
        go_wp2
        obtain ⟨wo, rfl⟩ : ∃ wo : World, wo = wr := ⟨_, rfl⟩
        go_loopw [8, 9, 44] (fun v8 v9 vi wi => ∃ i : Nat, i ≤ m ∧ vi = .int .i64 i ∧ FRel w2 (L ++ partsTo x i) v8 v9 wi ∧ Blk wi wo.heap.size 33 #[Value.slice A1 m cA, Value.slice Bq mj cB]) (fun _ _ i _ => m - (intOf i).toNat)
        case atStart =>
          refine ⟨0, by omega, rfl, ?_, Blk.new _ _ _⟩
          simp only [partsTo, List.range_zero, List.map_nil, List.append_nil]
          exact HF.out.alloc _
        case round =>
          obtain ⟨i, hi, rfl, hrel, hB⟩ := hrel
          have HR := Lib.hid hrel
          by_cases him : i < m
          · have b0 : wr.cell? ⟨wo.heap.size, 0, none⟩ = some (.slice A1 m cA) := hB.cell 0
            have b1 : wr.cell? ⟨wo.heap.size, 1, none⟩ = some (.slice Bq mj cB) := hB.cell 1
            have hlt2 : wo.heap.size < wr.heap.size := hB.lt
            have hle2 : Below w2.heap.size w2 wr := hrel.b
            have hlen : (L ++ partsTo x i).length ≤ 256 := by simp [partsTo]; omega
            obtain ⟨bp, op, hA, hbl, hcell⟩ := (H3.out.later hle2).plainA (by rw [ints_length, HPL.out]; omega)
            have hcc := hcell i _ (ints_get (by rw [HPL.out]; exact him))
            have hpb := HGd.out.pr i (by rw [HPL.out]; exact him)
            subst hA
            have HPa : Hid (wj (partAt x i) = x.parts.getD i 0 + (if 0 < i then x.joins.getD (i - 1) 0 else 0) ∧ (partAt x i).first = decide (i = 0)) := ⟨rfl, rfl⟩
            have hlb : (L ++ partsTo x i).length = L.length + i := by simp [partsTo]
            generalize hLL : L ++ partsTo x i = LL at *
            have HLL := Lib.hid hLL
            have HLB := Lib.hid hlb
            have HB := Lib.hid hB
            have push : Hid (∀ (w3 w4 : World) (v8' v9' : Value) (o1 o2 : Obj), w3.ownsRow w2.heap.size 3 1 v8' (LL.length + 1) (wjs LL ++ [Value.int .i64 (wj (partAt x i))]) → (wr.alloc o1).grownBy w3 u8.ownBlock → w4.ownsRow w2.heap.size 4 1 v9' (LL.length + 1) (firsts LL ++ [Value.bool (partAt x i).first]) → (w3.alloc o2).grownBy w4 u9.ownBlock →
                FRel w2 (L ++ partsTo x (i + 1)) v8' v9' w4 ∧ Blk w4 wo.heap.size 33 #[Value.slice (some ⟨bp, op, none⟩) m cA, Value.slice Bq mj cB]) := fun w3 w4 v8' v9' o1 o2 a1 a2 a3 a4 => by
              have k9 := (HR.out.w9.alloc o1).kept a2 (own_own_ne HR.out.w9 HR.out.w8 (by decide))
              refine ⟨by rw [partsTo_succ, ← List.append_assoc, HLL.out]; exact HR.out.push a1 a2 a3 a4, ?_⟩
              have n8 : u8.ownBlock ≠ some wo.heap.size := fun e => by have := own_blk_ne_ HR.out.w8 HB.out (by decide); exact this e
              have n9 : u9.ownBlock ≠ some wo.heap.size := fun e => by have := own_blk_ne_ HR.out.w9 HB.out (by decide); exact this e
              exact (((HB.out.alloc _).grown a2 (Ne.symm n8)).alloc _).grown a4 (Ne.symm n9)
            have hpz : ∃ z : Int, z = x.parts.getD i 0 := ⟨_, rfl⟩
            obtain ⟨pz, hpz⟩ := hpz
            rw [← hpz] at hcc hpb HPa
            have hs8 : w2.heap.size ≤ wr.heap.size := hle2.size
            clear hB hrel hcell hLL hlb
            by_cases hi0 : i = 0
            · subst hi0
              have e1 : wj (partAt x 0) = pz := by rw [HPa.out.1]; simp
              have e2 : (partAt x 0).first = true := by rw [HPa.out.2]; simp
              rw [e1, e2] at push
              rw [Nat.add_zero] at hcc
              clear e1 e2 HPa hpz hle2
              go_wp2_with (first | (at_builtin; refine wpList_push eInt rfl (.tmp 59) (.tmp 61) rfl w2.heap.size u8 LL.length _ rfl (HR.out.w8.alloc _) ⟨wr.heap.size, 0, none⟩ 1 (.int .i64 pz) rfl (new_one _ _ _) rfl (by omega) (by omega) (le_alloc hs8 _) ?_; intro v8' w3 hown1 hg1 hk1) | (at_builtin; refine wpList_push eBool rfl (.tmp 63) (.tmp 66) rfl w2.heap.size u9 LL.length _ rfl (((HR.out.w9.alloc _).kept hg1 (own_own_ne HR.out.w9 HR.out.w8 (by decide))).alloc _) ⟨w3.heap.size, 0, none⟩ 1 (.bool true) rfl (new_one _ _ _) rfl (by omega) (by omega) (le_alloc (Nat.le_trans (le_alloc hs8 _) hg1.size) _) ?_; intro v9' w4 hown2 hg2 hk2))
              exact ⟨⟨1, by omega, rfl, push.out _ _ _ _ _ _ hown1 hg1 hown2 hg2⟩, by simp [intOf]; omega⟩
            · obtain ⟨q, rfl⟩ : ∃ q, i = q + 1 := ⟨i - 1, by omega⟩
              obtain ⟨bq, oq, hA, hblq, hcellq⟩ := ((H4.out.later hle2)).plainA (by rw [ints_length, HJL.out]; omega)
              have hccq := hcellq q _ (ints_get (by rw [HJL.out]; omega))
              have hjb := HGd.out.jr q (by rw [HJL.out]; omega)
              subst hA
              have e1 : wj (partAt x (q + 1)) = pz + x.joins.getD q 0 := by rw [HPa.out.1]; simp
              have e2 : (partAt x (q + 1)).first = false := by rw [HPa.out.2]; simp
              rw [e1, e2] at push
              clear e1 e2 HPa hpz hcellq hle2
              generalize x.joins.getD q 0 = jz at *
              go_wp2_with (first | (at_builtin; refine wpList_push eInt rfl (.tmp 59) (.tmp 61) rfl w2.heap.size u8 LL.length _ rfl (HR.out.w8.alloc _) ⟨wr.heap.size, 0, none⟩ 1 (.int .i64 (pz + jz)) rfl (new_one _ _ _) rfl (by omega) (by omega) (le_alloc hs8 _) ?_; intro v8' w3 hown1 hg1 hk1) | (at_builtin; refine wpList_push eBool rfl (.tmp 63) (.tmp 66) rfl w2.heap.size u9 LL.length _ rfl (((HR.out.w9.alloc _).kept hg1 (own_own_ne HR.out.w9 HR.out.w8 (by decide))).alloc _) ⟨w3.heap.size, 0, none⟩ 1 (.bool false) rfl (new_one _ _ _) rfl (by omega) (by omega) (le_alloc (Nat.le_trans (le_alloc hs8 _) hg1.size) _) ?_; intro v9' w4 hown2 hg2 hk2))
              exact ⟨⟨q + 1 + 1, by omega, by go_num, push.out _ _ _ _ _ _ hown1 hg1 hown2 hg2⟩, by simp [intOf]; omega⟩
          · obtain rfl : i = m := by omega
            clear hrel hB
            go_wp2
            go_roundw
            case rel => exact ⟨j + 1, by omega, by go_num, by rw [HS.out, wordParts, HPL.out]; exact HR.out⟩
            case measure => simp [intOf]; omega
      · obtain rfl : j = nw := by omega
        rw [List.take_of_length_le (by rw [HN.out]; exact Nat.le_refl _)] at hrel
        obtain ⟨wl, rfl⟩ : ∃ wl : World, wl = wr := ⟨_, rfl⟩
        have hbne : best s (flatW ws) ≠ none := by rw [HBest.out]; exact fun h => by cases h
        have hlf := lines_fact (s := s) (l := flatW ws) hbne
        have hln : (flatW ws).length ≤ 256 := by
          have := HG.out.tot ws.length (Nat.le_refl _)
          rwa [List.take_of_length_le (Nat.le_refl _)] at this
        have HOk := Lib.hid (flatW_ok HG.out.all)
        have HSh := Lib.hid HG.out.sh
        have HLO : Hid (∀ t, t < (linesOf s (flatW ws)).length → _) := fun t ht => lines_ok HG.out.sh HOk.out hbne t ht
        have HNJ := Lib.hid (noJoin_flat ws)
        have hLi := HLi.out.later hrel.b
        have HBL := Lib.hid hrel.b
        have hX3 := HX2.out.below hrel.b HX2.out.lt
        have HY3 := Lib.hid (HY2.out.below hrel.b HY2.out.lt)
        have HSt : Hid (∀ w5, Below wl.heap.size wl w5 → ∀ i, i < (flatW ws).length → Calls Try.prog 8 #[.int .i64 (i : Int), .pointer (some ⟨w.heap.size, 0, none⟩)] w5 fun e w' => e = .returned (.int .i64 (pt (flatW ws) i).width) ∧ Below w5.heap.size w5 w') := fun w5 hb5 i hi => by
          rcases HW2.out with h | ⟨hn0, bW, oW, rfl, hWI⟩
          · subst h; simp [flatW] at hi
          · refine start_any bW 0 w.heap.size oW c ws w5 ?_ ((hWI.later hrel.b).later hb5) HG.out.n i hi hln
            rw [HN.out]; exact Blk.cell (hX3.below hb5 hX3.lt) 0
        obtain ⟨A8, c8, rfl⟩ := own_form hrel.w8
        have HBo : Hid (∀ i, i < (flatW ws).length → ∃ bL oL, A8 = some ⟨bL, oL, none⟩ ∧ bL < wl.heap.size ∧ wl.cell? ⟨bL, oL + i, none⟩ = some (.int .i64 (wj (pt (flatW ws) i)))) := fun i hi => by
          obtain ⟨bL, oL, hA, hlt, hc⟩ := (Sl.of_own hrel.w8).plainA (by rw [wjs_length]; omega)
          refine ⟨bL, oL, hA, hlt, hc i _ ?_⟩
          simp [wjs, ints, pt, List.getD_eq_getElem?_getD, List.getElem?_eq_getElem hi]
        have HLi := Lib.hid hLi
        have HL1 := Lib.hid hlf.1
        have HL2 := Lib.hid hlf.2
        clear hrel hLi hlf HBest HG HW HW2 HBr hbne hX3 HX1 HX2 HY1 HY2 HB1 y y6
        generalize flatW ws = l at *
        generalize hnl : l.length = n at *
        have HNl := Lib.hid hnl
        clear hnl
        have HLl : Hid ((linesOf s l).length ≤ n) := by
          have := cuts_len s l l.length 0
          unfold Hid linesOf; rw [List.length_map]; rw [HNl.out] at this ⊢; exact this
        generalize hLL : linesOf s l = L at *
        have HLL := Lib.hid hLL
        clear hLL
        have hLln := HLl.out
        generalize hml : L.length = ml at *
        have HML := Lib.hid hml
        clear hml
        go_wp2
        go_loopw [73] (fun vi wr => ∃ t : Nat, t ≤ ml ∧ vi = .int .i64 t ∧ Below wl.heap.size wl wr) (fun i _ => ml - (intOf i).toNat)
        case atStart => exact ⟨0, by omega, rfl, Below.refl _ _⟩
        case round =>
          obtain ⟨t, ht, rfl, hb⟩ := hrel
          by_cases htl : t < ml
          · obtain ⟨gL, cL, hv, hgl, hc⟩ := HLi.out.at_ (by rw [HML.out]; omega)
            injection hv with hA hvl hcc
            subst hA
            clear hvl hcc
            obtain ⟨Ag, cg, d0, d1, d2, d3, d4⟩ := hc t (by rw [HML.out]; exact htl)
            obtain ⟨l1, l2, l3, l4, l5⟩ := HL1.out t htl
            have hlo := HLO.out t htl
            have e0 := (hb.cell (p := ⟨gL, t * 4, none⟩) hgl).trans d0
            have e1 := (hb.cell (p := ⟨gL, t * 4 + 1, none⟩) hgl).trans d1
            have e2 := (hb.cell (p := ⟨gL, t * 4 + 2, none⟩) hgl).trans d2
            have e3 := (hb.cell (p := ⟨gL, t * 4 + 3, none⟩) hgl).trans d3
            rw [l4] at e2
            have e2' : wr.cell? ⟨gL, t * 4 + 2, none⟩ = some (.bool (!(pt l ((lnAt L t).t - 1)).last)) := e2
            have HB := Lib.hid hb
            have H4 := Lib.hid (d4.later hb)
            have HLO1 := Lib.hid hlo
            have z1 := Nat.lt_of_lt_of_le hgl hb.size
            clear hc d0 d1 d2 d3 d4 e2 hb l1 l4 l5 hlo
            generalize (lnAt L t).f = f at *
            generalize (lnAt L t).t = tt at *
            generalize (lnAt L t).gs = gs at *
            generalize hgn : gs.length = gn at *
            have HGN := Lib.hid hgn
            clear hgn
            have HF8 := Lib.hid (HSt.out ((wr.alloc (Obj.cells #[.int .i64 (f : Int), .int .i64 (tt : Int), .bool (!(pt l (tt - 1)).last), .slice Ag gn cg] 35))) (HB.out.alloc HB.out.size _) f (by omega))
            have HBk := Lib.hid (Blk.new wr 35 #[.int .i64 (f : Int), .int .i64 (tt : Int), .bool (!(pt l (tt - 1)).last), .slice Ag gn cg])
            have hzb := fixTo_bd (HOk.out.drop f)
            have HZB := Lib.hid hzb
            clear hzb
            go_wp2_with (go_at_call 8; refine HF8.out.mono ?_; rintro e w5 ⟨rfl, hb5⟩; have hB5 := Lib.hid (HBk.out.below hb5 HBk.out.lt); have k0 : w5.cell? ⟨wr.heap.size, 0, none⟩ = some (.int .i64 (f : Int)) := hB5.out.cell 0; have k1 : w5.cell? ⟨wr.heap.size, 1, none⟩ = some (.int .i64 (tt : Int)) := hB5.out.cell 1; have k2 : w5.cell? ⟨wr.heap.size, 2, none⟩ = some (.bool (!(pt l (tt - 1)).last)) := hB5.out.cell 2; have k3 : w5.cell? ⟨wr.heap.size, 3, none⟩ = some (.slice Ag gn cg) := hB5.out.cell 3; have k5 := hB5.out.lt; have HB5 := Lib.hid hb5; clear hb5)
            have hb6 := (HB.out.alloc HB.out.size (Obj.cells #[.int .i64 (f : Int), .int .i64 (tt : Int), .bool (!(pt l (tt - 1)).last), .slice Ag gn cg] 35)).trans (HB5.out.mono (le_alloc HB.out.size _))
            have H4' := Lib.hid ((H4.out.alloc (Obj.cells #[.int .i64 (f : Int), .int .i64 (tt : Int), .bool (!(pt l (tt - 1)).last), .slice Ag gn cg] 35)).later HB5.out)
            have HB6 := Lib.hid hb6
            clear e0 e1 e2' e3 hb6 HF8 HBk H4 HB5 z1
            go_loop [17, 18] (fun vs vi => ∃ m : Nat, f + m + 1 ≤ tt ∧ vi = .int .i64 ((f + m + 1 : Nat) : Int) ∧ vs = .int .i64 (fixTo (l.drop f) (m + 1)).1) (fun _ i => tt - (intOf i).toNat)
            case atStart => exact ⟨0, by omega, rfl, by rw [fixTo_one]⟩
            case round =>
              obtain ⟨m, hm2, rfl, rfl⟩ := hrel
              obtain ⟨bd0, bd1, _, _⟩ := HZB.out (m + 1)
              obtain ⟨p, hp⟩ : ∃ p, p = f + m + 1 := ⟨_, rfl⟩
              rw [← hp] at hm2 ⊢
              have HP := Lib.hid hp
              clear hp
              by_cases hml2 : p < tt
              · obtain ⟨b2, o2, hA2, hb2, hcb2⟩ := HBo.out p (by omega)
                subst hA2
                have e7 := (HB6.out.cell (p := ⟨b2, o2 + p, none⟩) hb2).trans hcb2
                have HFx := Lib.hid (fixTo_wj HNJ.out f (m + 1) (by omega))
                have hpp : f + (m + 1) = p := by have := HP.out; omega
                rw [hpp] at HFx
                have hpo := HOk.out p
                have hwb : -2047 ≤ wj (pt l p) ∧ wj (pt l p) ≤ 67582 := by unfold wj; have := hpo.w0; have := hpo.w1; have := hpo.j0; have := hpo.j1; omega
                clear hcb2 hpp hpo
                generalize wj (pt l p) = wz at *
                have hmm : m ≤ 256 := by have := HP.out; omega
                generalize (fixTo (l.drop f) (m + 1)).1 = sz at *
                go_wp2
                go_round
                case rel => exact ⟨m + 1, by have := HP.out; omega, valInt (by have := HP.out; omega), valInt (by rw [HFx.out])⟩
                case measure => simp [intOf]; omega
              · obtain rfl : p = tt := by omega
                have hY5 := HY3.out.below HB6.out HY3.out.lt
                have x0 := Blk.cell hY5 0
                have x1 := Blk.cell hY5 1
                have x2 := Blk.cell hY5 2
                have x3 := Blk.cell hY5 3
                have x4 := Blk.cell hY5 4
                have x5 := Blk.lt hY5
                simp only [List.getElem?_toArray, List.getElem?_cons_zero, List.getElem?_cons_succ] at x0 x1 x2 x3 x4
                have hzz : fixW s (l.drop f) (p - f) = if (pt l (p - 1)).last = true then (fixTo (l.drop f) (m + 1)).1 else (fixTo (l.drop f) (m + 1)).1 + s.H := by
                  unfold fixW
                  rw [pt_drop, show f + (p - f - 1) = p - 1 by omega, show p - f = m + 1 by have := HP.out; omega]
                have hmm : m ≤ 256 := by have := HP.out; omega
                generalize (fixTo (l.drop f) (m + 1)).1 = Y at *
                generalize fixW s (l.drop f) (p - f) = z at *
                have hsh := HSh.out
                have hH0 := hsh.H0
                have hH1 := hsh.H1
                have hW1 := hsh.W1
                have hM1 := hsh.M1
                have hSM := hsh.SM
                have hL0 := hsh.L0
                have hLS := hsh.LS
                have hzb : -600000 ≤ z := by rw [hzz]; split <;> omega
                have hfit : Hid (∀ q, q ≤ gn → 0 ≤ gsum gs q ∧ z + gsum gs q ≤ s.W) := fun q hq => by
                  obtain ⟨a1, a2⟩ := gsum_le gs (fun i hi => by have := HLO1.out.lo i hi; omega) q (gn - q) (by rw [HGN.out]; omega)
                  have := HLO1.out.fit
                  rw [HGN.out] at this
                  rw [show q + (gn - q) = gn by omega] at a2
                  omega
                have HZZ := Lib.hid hzz
                have hgm : gn ≤ 9223372036854775807 := by have := H4'.out.cap_le; unfold maxLen at this; omega
                clear hsh hY5 hzz
                generalize (pt l (p - 1)).last = lb at *
                cases lb
                focus
                  have hzz : Y + s.H = z := by rw [HZZ.out, if_neg (by decide)]
                  go_wp2
                  clear hzz bd0 bd1
                rotate_left
                focus
                  obtain rfl : z = Y := by rw [HZZ.out, if_pos rfl]
                  go_wp2
                  clear bd0 bd1
                rotate_left
                all_goals
                  clear k0 k1 k2 x4 HZZ
                  go_loop [17, 106] (fun vs vi => ∃ q : Nat, q ≤ gn ∧ vi = .int .i64 q ∧ vs = .int .i64 (z + gsum gs q)) (fun _ i => gn - (intOf i).toNat)
                  case atStart => exact ⟨0, by omega, rfl, by simp [gsum]⟩
                  case round =>
                    obtain ⟨q, hq, rfl, rfl⟩ := hrel
                    obtain ⟨ft0, ft1⟩ := hfit.out q hq
                    by_cases hqg : q < gn
                    · obtain ⟨bg, og, hA, hbg, hcg⟩ := H4'.out.plainA (by rw [ints_length, HGN.out]; omega)
                      subst hA
                      have c1 := hcg q _ (ints_get (by rw [HGN.out]; exact hqg))
                      have c2 := hcg 0 _ (ints_get (by rw [HGN.out]; omega))
                      rw [Nat.add_zero] at c2
                      have g1 := HLO1.out.lo q (by rw [HGN.out]; exact hqg)
                      have g2 := HLO1.out.hi q (by rw [HGN.out]; exact hqg)
                      obtain ⟨g3, g4⟩ := HLO1.out.near q (by rw [HGN.out]; exact hqg)
                      have HGS := Lib.hid (gsum_succ gs q (by rw [HGN.out]; exact hqg))
                      obtain ⟨ft2, ft3⟩ := hfit.out (q + 1) (by omega)
                      rw [HGS.out] at ft2 ft3
                      clear hcg
                      generalize gs.getD q 0 = g at *
                      generalize gs.getD 0 0 = gz at *
                      generalize hsq : gsum gs q = sq at *
                      have HSQ := Lib.hid hsq
                      clear hsq
                      by_cases hlast : t + 1 = ml
                      · rw [if_pos (by simpa using hlast)] at g2
                        have q1 : ((t : Int) + 1 == (ml : Int)) = true := by rw [beq_iff_eq]; omega
                        have q2 : ¬ (t + 1 < ml) := by omega
                        clear hlast
                        have q3 : decide ((t : Int) + 1 < (ml : Int)) = false := by rw [decide_eq_false_iff_not]; omega
                        go_wp2
                        go_round
                        case rel => exact ⟨q + 1, by omega, by go_num, valInt (by rw [HGS.out]; omega)⟩
                        case measure => simp [intOf]; omega
                      · rw [if_neg (by simpa using hlast)] at g2
                        have q1 : ((t : Int) + 1 == (ml : Int)) = false := by rw [beq_eq_false_iff_ne]; omega
                        have q2 : t + 1 < ml := by omega
                        have q3 : decide ((t : Int) + 1 < (ml : Int)) = true := by rw [decide_eq_true_iff]; omega
                        go_wp2
                        go_round
                        case rel => exact ⟨q + 1, by omega, by go_num, valInt (by rw [HGS.out]; omega)⟩
                        case measure => simp [intOf]; omega
                    · obtain rfl : q = gn := by omega
                      have hfull := HLO1.out.full
                      rw [HGN.out] at hfull
                      have HFull := Lib.hid hfull
                      clear hfull
                      generalize z + gsum gs q = S at *
                      have q4 : decide (s.W < S) = false := by rw [decide_eq_false_iff_not]; omega
                      by_cases hlast : t + 1 = ml
                      · have q3 : decide ((t : Int) + 1 < (ml : Int)) = false := by rw [decide_eq_false_iff_not]; omega
                        clear hlast
                        go_wp2
                        go_roundw
                        case rel => exact ⟨t + 1, by omega, by go_num, HB6.out⟩
                        case measure => simp [intOf]; omega
                      · have q3 : decide ((t : Int) + 1 < (ml : Int)) = true := by rw [decide_eq_true_iff]; omega
                        by_cases hg0 : q = 0
                        · subst hg0
                          go_wp2
                          go_roundw
                          case rel => exact ⟨t + 1, by omega, by go_num, HB6.out⟩
                          case measure => simp [intOf]; omega
                        · obtain rfl : S = s.W := HFull.out (by simpa using hlast) (by omega)
                          go_wp2
                          go_roundw
                          case rel => exact ⟨t + 1, by omega, by go_num, HB6.out⟩
                          case measure => simp [intOf]; omega
          · obtain rfl : t = ml := by omega
            have HB := Lib.hid hb
            clear hb
            go_wp2
            go_ret
            exact ⟨rfl, HB2.out.trans ((HBL.out.trans (HB.out.mono HBL.out.size)).mono HB2.out.size)⟩
end Go.Proofs.Ytajmdgkchleipaa
