/- The walk of ParaTailOptimal. -/
import Derived.Test.YtajmdgkchleipaaCover
import Derived.Test.YtajmdgkchleipaaTailPlain
namespace Go.Proofs.Ytajmdgkchleipaa
open Go.RowKit Para
theorem wdAt_drop (ws : List Wd) (k i : Nat) : wdAt (ws.drop k) i = wdAt ws (k + i) := by simp [wdAt, List.getD_eq_getElem?_getD, List.getElem?_drop]
theorem Wds.cut {w : World} {A : Option Addr} {ws : List Wd} {k c : Nat} (h : Wds w A ws) (hk : k ≤ ws.length) (hc : ws.length ≤ c) : Wds w (if c = k then A else A.map (·.add (k * 2))) (ws.drop k) := by
  rcases h with rfl | ⟨hn, b, off, rfl, h⟩
  · exact .inl (by simp)
  · rcases Nat.lt_or_ge k ws.length with hlt | hge
    · refine .inr ⟨by simp; omega, b, off + k * 2, ?_, h.lt, fun i hi => ?_, fun i hi => ?_⟩
      · rw [if_neg (by omega)]; simp [add_plain]
      · rw [wdAt_drop]; exact h.big _ (by simp at hi; omega)
      · rw [wdAt_drop]
        have := h.cell (k + i) (by simp at hi; omega)
        rwa [show off + (k + i) * 2 = off + k * 2 + i * 2 by omega] at this
    · exact .inl (by rw [List.drop_eq_nil_iff]; omega)
theorem run_cut (A : Option Addr) (n c k : Nat) (hk : k ≤ n) (w : World) : (Instr.slice 22 (.slice A n c) (some (.int .i64 (k : Int))) none none).run Try.prog w = .ok (.slice (if c = k then A else A.map (·.add (k * 2))) (n - k) (c - k)) w := by
  have hs : (sizeOf 33).run Try.prog w = .ok 2 w := by kernel_rfl
  have hu : (underlying 22).run Try.prog w = .ok (.slice 33) w := by kernel_rfl
  simp [Instr.slice, hu, hs, Instr.sliceBounds, Instr.sliceBound, asIntOf, hk]
theorem Good.drop {ws : List Wd} {s : Shape} (h : Good ws s) (k : Nat) : Good (ws.drop k) s := by
  refine ⟨by have := h.n; simp; omega, fun i hi => by rw [wdAt_drop]; exact h.all _ (by simp at hi; omega), fun i hi => ?_, h.sh⟩
  have h1 := h.tot ws.length (Nat.le_refl _)
  rw [List.take_of_length_le (Nat.le_refl _), flatW_split ws k, List.length_append] at h1
  have h2 := congrArg List.length (flatW_split (ws.drop k) i)
  rw [List.length_append] at h2
  omega
theorem flat_len_mono (ws : List Wd) (k : Nat) : (flatW (ws.take k)).length ≤ (flatW ws).length := by
  have := congrArg List.length (flatW_split ws k)
  rw [List.length_append] at this; omega
/-- What the second call must say, and how the two compare. -/
structure TailFact (ws : List Wd) (s : Shape) (k T : Nat) (c : Int) : Prop where
  lines : linesOf s (flatW ws) = lnOf s (flatW ws) (0, T) :: (linesOf s (flatW (ws.drop k))).map (shiftLn T)
  best : ∃ b, best s (flatW (ws.drop k)) = some b ∧ b.1 ≤ c
theorem lnAt_zero {s : Shape} {ws : List Wd} {c : Int} {T : Nat} (hn : 0 < (flatW ws).length) (hb : best s (flatW ws) = some (c, T)) : lnAt (linesOf s (flatW ws)) 0 = lnOf s (flatW ws) (0, T) := by
  rw [(lines_tail hn hb).1]; rfl
theorem tail_fact {ws : List Wd} {s : Shape} {k T : Nat} {c : Int} (hg : Good ws s) (hn : 0 < (flatW ws).length) (hb : Para.best s (flatW ws) = some (c, T)) (hT : (flatW (ws.take k)).length = T) : TailFact ws s k T c := by
  obtain ⟨h1, b, h2, h3⟩ := lines_tail hn hb
  have hd : flatW (ws.drop k) = (flatW ws).drop T := by rw [flatW_drop, hT]
  have hle : (flatW ws).length ≤ 256 := by have := hg.tot ws.length (Nat.le_refl _); rwa [List.take_of_length_le (Nat.le_refl _)] at this
  have hTl : T ≤ (flatW ws).length := by rw [← hT]; exact flat_len_mono ws k
  have := (cost_bd hg.sh (flatW_ok hg.all) T (by omega)).1
  exact ⟨by rw [hd]; exact h1, b, by rw [hd]; exact h2, by omega⟩
theorem tail_parts {ws : List Wd} {s : Shape} {k T : Nat} {c : Int} (hn : 0 < (flatW ws).length) (hb : Para.best s (flatW ws) = some (c, T)) (hhy : (lnAt (linesOf s (flatW ws)) 0).hy = false) (hk : k ≤ ws.length)
    (h1 : k = 0 ∨ (flatW (ws.take (k - 1))).length < T) (h2 : T ≤ (flatW (ws.take k)).length ∨ k = ws.length) : (flatW (ws.take k)).length = T := by
  rw [lnAt_zero hn hb] at hhy
  have hlast : (pt (flatW ws) (T - 1)).last = true := by simpa [lnOf] using hhy
  have hb' : Para.best s ((flatW ws).drop 0) = some (c, T) := by rw [List.drop_zero]; exact hb
  obtain ⟨b1, b2, _⟩ := best_some hn hb'
  have h2' : T ≤ (flatW (ws.take k)).length := by
    rcases h2 with h | h
    · exact h
    · rw [h, List.take_of_length_le (Nat.le_refl _)]; omega
  rcases h1 with rfl | h1
  · simp [flatW] at h2'; omega
  · have hk0 : 0 < k := by
      rcases Nat.eq_zero_or_pos k with rfl | h
      · simp [flatW] at h2'; omega
      · exact h
    obtain ⟨m, rfl⟩ : ∃ m, k = m + 1 := ⟨k - 1, by omega⟩
    rw [Nat.add_sub_cancel] at h1
    exact word_end (by omega) h1 h2' hlast
theorem below_undrew {B : Nat} {w w' : World} (h : Below B w.drew w') : Below B w w' := ⟨h.os, h.tape, h.output, h.size, h.block⟩
def SecPost (bz : Int) (L : List Ln) (w : World) (e : Ending) (w' : World) : Prop :=
  Below w.heap.size w w' ∧ ∃ (A : Option Addr) (c : Nat), e = .returned (.tuple #[.slice A L.length c, .int .i64 bz, .int .i64 0]) ∧ LinesIn w' w.heap.size (.slice A L.length c) L
theorem sec_post {ws : List Wd} {s : Shape} {b : Int × Nat} {w w' : World} {e : Ending} (hg : Good ws s) (hb : Para.best s (flatW ws) = some b) (h : BrkPost ws s w e w') : SecPost b.1 (linesOf s (flatW ws)) w e w' := by
  obtain ⟨h1, ⟨z, _, _, h2⟩ | ⟨_, b', A, c, h2, h3, h4⟩⟩ := h
  · rw [h2 hg] at hb; cases hb
  · rw [hb] at h2; injection h2 with h2; subst h2; exact ⟨h1, A, c, h3, h4⟩
set_option maxHeartbeats 4000000 in
set_option maxRecDepth 100000 in
theorem tail_any (A : Option Addr) (c : Nat) (ws : List Wd) (s : Shape) (w : World) (hW : Wds w A ws) (hm : ws.length ≤ 9223372036854775807) (hcap : ws.length ≤ c) :
    Calls Try.prog 5 #[.slice A ws.length c, .agg #[.int .i64 s.W, .int .i64 s.S, .int .i64 s.Lo, .int .i64 s.Mo, .int .i64 s.H, .int .i64 s.C]] w (CoverPost w) := by
  have hb0 := (Below.refl w.heap.size w).alloc (Nat.le_refl _) (Obj.cells #[.int .i64 s.W, .int .i64 s.S, .int .i64 s.Lo, .int .i64 s.Mo, .int .i64 s.H, .int .i64 s.C] 24)
  have HT := Lib.hid (breaks_any (w.alloc (Obj.cells #[.int .i64 s.W, .int .i64 s.S, .int .i64 s.Lo, .int .i64 s.Mo, .int .i64 s.H, .int .i64 s.C] 24)))
  have hBr : Hid (∀ w1, Below w.heap.size w w1 → Calls Try.prog 7 #[.slice A ws.length c, .agg #[.int .i64 s.W, .int .i64 s.S, .int .i64 s.Lo, .int .i64 s.Mo, .int .i64 s.H, .int .i64 s.C]] w1 (BrkPost ws s w1)) := fun w1 hb => break_all A c ws s w1 (hW.later hb) hm
  have hBr2 : Hid (∀ k, k ≤ ws.length → ∃ A', (∀ w : World, (Instr.slice 22 (.slice A ws.length c) (some (.int .i64 (k : Int))) none none).run Try.prog w = .ok (.slice A' (ws.length - k) (c - k)) w) ∧
      ∀ w1, Below w.heap.size w w1 → Calls Try.prog 7 #[.slice A' (ws.length - k) (c - k), .agg #[.int .i64 s.W, .int .i64 s.S, .int .i64 s.Lo, .int .i64 s.Mo, .int .i64 s.H, .int .i64 s.C]] w1 (BrkPost (ws.drop k) s w1)) := fun k hk => by
    refine ⟨_, run_cut A ws.length c k hk, fun w1 hb => ?_⟩
    have := break_all _ (c - k) (ws.drop k) s w1 ((hW.cut hk hcap).later hb) (by simp; omega)
    rwa [List.length_drop] at this
  have HW := Lib.hid hW
  have HB0 := Lib.hid hb0
  have HNw := Lib.hid hm
  have HX0 := Lib.hid (Blk.new w 24 #[.int .i64 s.W, .int .i64 s.S, .int .i64 s.Lo, .int .i64 s.Mo, .int .i64 s.H, .int .i64 s.C])
  clear hW hb0
  generalize hnn : ws.length = nw at *
  have HN := Lib.hid hnn
  clear hnn
  go_enter Try.func5, Try.ntmps5
  go_wp2_with fail
  refine HT.out.mono ?_; rintro e w1 ⟨rfl, hb1⟩
  have hX1 := Blk.below HX0.out hb1 (by simp)
  have HX1 := Lib.hid hX1
  have x0 := Blk.cell hX1 0
  have x1 := Blk.cell hX1 1
  have x2 := Blk.cell hX1 2
  have x3 := Blk.cell hX1 3
  have x4 := Blk.cell hX1 4
  have x5 := Blk.cell hX1 5
  have x := Blk.lt hX1
  have HB1 := Lib.hid (HB0.out.trans (hb1.mono HB0.out.size))
  have HBr := Lib.hid (hBr.out w1 HB1.out)
  clear hX1 hBr hb1 HT
  simp only [List.getElem?_toArray, List.getElem?_cons_zero, List.getElem?_cons_succ] at x0 x1 x2 x3 x4 x5
  go_wp2_with fail
  refine HBr.out.mono ?_; rintro e w2 ⟨hb2, h | ⟨hg, b', Ao, co, hbest, rfl, hl⟩⟩
  · obtain ⟨z, hz, rfl, _⟩ := h
    have HB2 := Lib.hid (HB1.out.trans (hb2.mono HB1.out.size))
    clear hb2 x0 x1 x2 x3 x4 x5 x
    have hz' : (z != 0) = true := by simpa using hz
    go_wp2
    all_goals (go_ret; exact ⟨rfl, HB2.out⟩)
  · have HX2 := Lib.hid (HX1.out.below hb2 HX1.out.lt)
    have HB2 := Lib.hid (HB1.out.trans (hb2.mono HB1.out.size))
    obtain ⟨bz, T⟩ := b'
    have HLi := Lib.hid hl
    have HG := Lib.hid hg
    have HBest := Lib.hid hbest
    have hpos : Hid (0 < nw → 0 < (flatW ws).length) := fun h => flatW_pos ws (by rw [HN.out]; exact h) fun i hi => (hg.all i hi).ok
    have h0 : Hid (ws = [] → linesOf s (flatW ws) = []) := fun h => by subst h; rfl
    have hlt : Hid (∀ h : 0 < (flatW ws).length, linesOf s (flatW ws) ≠ []) := fun h e => by rw [(lines_tail h hbest).1] at e; cases e
    clear hb2 hl hg hbest x0 x1 x2 x3 x4 x5 x HX1 HX0 HB0 HBr HB1
    generalize hLL : linesOf s (flatW ws) = L at *
    have HLL := Lib.hid hLL
    clear hLL
    generalize hml : L.length = ml at *
    have HML := Lib.hid hml
    clear hml
    by_cases hz : nw = 0
    · subst hz
      have : ml = 0 := by rw [← HML.out, h0.out (List.eq_nil_of_length_eq_zero HN.out)]; rfl
      subst this
      go_wp2
      go_ret
      exact ⟨rfl, HB2.out⟩
    · have hml : 0 < ml := by
        rw [← HML.out]; exact List.length_pos_iff.2 (hlt.out (hpos.out (by omega)))
      obtain ⟨gL, cL, hv, hgl, hc⟩ := HLi.out.at_ (by rw [HML.out]; exact hml)
      injection hv with hA hl0 hcc
      subst hA; subst hcc
      clear hl0
      obtain ⟨Ag, cg, d0, d1, d2, d3, d4⟩ := hc 0 (by rw [HML.out]; exact hml)
      rw [Nat.zero_mul] at d0 d1 d2 d3
      rw [Nat.zero_add] at d1 d2 d3
      obtain ⟨r, hr⟩ : ∃ r, ml = r + 1 := ⟨ml - 1, by omega⟩
      have HRr := Lib.hid hr
      clear hr
      have f1 : ((ml : Int) == 0) = false := by rw [beq_eq_false_iff_ne]; omega
      have f2 : decide (0 < (ml : Int)) = true := by rw [decide_eq_true_iff]; omega
      have HC := Lib.hid hc
      cases hy : (lnAt L 0).hy with
      | true =>
        rw [hy] at d2
        clear d0 d1 d3 d4 hy hc
        go_wp2
        all_goals (go_ret; exact ⟨rfl, HB2.out⟩)
      | false =>
        rw [hy] at d2
        have HHy := Lib.hid hy
        clear hy hc d0 d3 d4
        have hT : lnAt L 0 = lnOf s (flatW ws) (0, T) := by rw [← HLL.out]; exact lnAt_zero (hpos.out (by omega)) HBest.out
        rw [hT] at d1
        have d1' : w2.cell? ⟨gL, 1, none⟩ = some (.int .i64 (T : Int)) := d1
        have HT := Lib.hid hT
        clear hT d1
        obtain ⟨hn0, bW, oW, rfl, hWI⟩ : 0 < ws.length ∧ ∃ b off, A = some ⟨b, off, none⟩ ∧ WordsIn w2 b off ws := by
          rcases HW.out.later HB2.out with h | h
          · have := HN.out; rw [h] at this; simp at this; omega
          · exact h
        have HWI := Lib.hid hWI
        have hTot : Hid (∀ k, k ≤ nw → (flatW (ws.take k)).length ≤ 256) := fun k hk => HG.out.tot k (by rw [HN.out]; exact hk)
        clear hWI hn0
        go_wp2
        go_loop [8, 9] (fun vk vp => ∃ k : Nat, k ≤ nw ∧ vk = .int .i64 k ∧ vp = .int .i64 ((flatW (ws.take k)).length : Nat) ∧ (k = 0 ∨ (flatW (ws.take (k - 1))).length < T)) (fun vk _ => nw - (intOf vk).toNat)
        case atStart => exact ⟨0, by omega, rfl, rfl, .inl rfl⟩
        case round =>
          obtain ⟨k, hk, rfl, rfl, hk1⟩ := hrel
          have h256 := hTot.out k hk
          by_cases hgo : (flatW (ws.take k)).length < T ∧ k < nw
          · obtain ⟨hgo, hlt⟩ := hgo
            obtain ⟨A1, cA, Bq, cB, h1, h2, h3, h4⟩ := HWI.out.cell k (by rw [HN.out]; exact hlt)
            have hle := hTot.out (k + 1) (by omega)
            have HS : Hid ((flatW (ws.take (k + 1))).length = (flatW (ws.take k)).length + (wdAt ws k).parts.length) := by
              unfold Hid; rw [flatW_succ ws k (by rw [HN.out]; exact hlt), List.length_append, wordParts_length]
            rw [HS.out] at hle
            have Hgo := Lib.hid hgo
            clear h2 h3 h4 hk1
            generalize (wdAt ws k).parts.length = m at *
            generalize hF : (flatW (ws.take k)).length = F at *
            have HF := Lib.hid hF
            clear hF
            go_wp2
            go_round
            case rel => exact ⟨k + 1, by omega, by go_num, valInt (by rw [HS.out]; omega), .inr (by rw [Nat.add_sub_cancel, HF.out]; exact Hgo.out)⟩
            case measure => simp [intOf]; omega
          · have hparts := tail_parts (hpos.out (by omega)) HBest.out (by rw [HLL.out]; exact HHy.out) (by rw [HN.out]; exact hk) hk1 (by
              rcases Nat.lt_or_ge (flatW (ws.take k)).length T with h | h
              · right; rw [HN.out]; omega
              · exact .inl h)
            have HTF := Lib.hid (tail_fact HG.out (hpos.out (by omega)) HBest.out hparts)
            have HGd := Lib.hid (HG.out.drop k)
            obtain ⟨A', hrun, hBr3⟩ := hBr2.out k hk
            rw [hparts] at h256 ⊢
            obtain ⟨b2, hb2best, hb2le⟩ := HTF.out.best
            have hml256 : Hid (ml ≤ 256) := by
              have h1 := cuts_len s (flatW ws) (flatW ws).length 0
              have h2 := hTot.out nw (Nat.le_refl _)
              rw [List.take_of_length_le (by rw [HN.out]; exact Nat.le_refl _)] at h2
              unfold Hid
              rw [← HML.out, ← HLL.out, linesOf, List.length_map]
              omega
            have hbd : Hid (∀ i, i < ml → (lnAt L i).f ≤ 256 ∧ (lnAt L i).t ≤ 256) := fun i hi => by
              have h := (lines_fact (s := s) (l := flatW ws) (by rw [HBest.out]; exact fun h => by cases h)).1
              rw [HLL.out] at h
              obtain ⟨a1, a2, a3, _⟩ := h i (by rw [HML.out]; exact hi)
              have := hTot.out nw (Nat.le_refl _)
              rw [List.take_of_length_le (by rw [HN.out]; exact Nat.le_refl _)] at this
              omega
            have HBr3 : Hid (∀ w1, Below w.heap.size w w1 → Calls Try.prog 7 #[.slice A' (nw - k) (c - k), .agg #[.int .i64 s.W, .int .i64 s.S, .int .i64 s.Lo, .int .i64 s.Mo, .int .i64 s.H, .int .i64 s.C]] w1 (SecPost b2.1 (linesOf s (flatW (ws.drop k))) w1)) := fun w1 hb =>
              (hBr3 w1 hb).mono fun e w' h => sec_post HGd.out hb2best h
            have hml2 : (linesOf s (flatW (ws.drop k))).length = r := by have := HML.out; rw [← HLL.out, HTF.out.lines, HRr.out] at this; simpa using this
            have hsh : Hid (∀ i, i < r → lnAt L (i + 1) = shiftLn T (lnAt (linesOf s (flatW (ws.drop k))) i)) := fun i hi => by
              rw [← HLL.out, HTF.out.lines]; simp [lnAt, List.getD_eq_getElem?_getD, List.getElem?_eq_getElem (show i < (linesOf s (flatW (ws.drop k))).length by omega)]
            generalize linesOf s (flatW (ws.drop k)) = L2 at *
            have HML2 := Lib.hid hml2
            clear hml2 hb2best HTF HGd HN hBr3 HBest hTot
            generalize b2.1 = bz2 at *
            have HBW := Lib.hid HB2.out.drew
            clear hgo hk1 hparts hBr2 HG HWI HW hpos
            have y0 := Blk.cell HX2.out 0
            have y1 := Blk.cell HX2.out 1
            have y2 := Blk.cell HX2.out 2
            have y3 := Blk.cell HX2.out 3
            have y4 := Blk.cell HX2.out 4
            have y5 := Blk.cell HX2.out 5
            have y := Blk.lt HX2.out
            simp only [List.getElem?_toArray, List.getElem?_cons_zero, List.getElem?_cons_succ] at y0 y1 y2 y3 y4 y5
            have q1 : decide ((T : Int) < (T : Int)) = false := by simp
            go_wp2
            go_region_law (first | (go_simp; go_at_call 7; refine (HBr3.out _ HBW.out).mono ?_; rintro e w4 ⟨hb4, A4, c4, rfl, hl4⟩; have HB4 := Lib.hid hb4; have HL4 := Lib.hid hl4; clear hb4 hl4; rw [HML2.out]))
            have hml3 := hml256.out
            have q2 : decide (bz < bz2) = false := by rw [decide_eq_false_iff_not]; omega
            have q3 : ((r : Int) != (ml : Int) - 1) = false := by have := HRr.out; rw [bne_eq_false_iff_eq]; omega
            clear y0 y1 y2 y3 y4 y5 q1 d1' d2 hrun f1 f2 hb2le
            have HB5 := Lib.hid ((HB2.out.drew).trans (HB4.out.mono HB2.out.size))
            have hgl4 := Nat.lt_of_lt_of_le hgl HB4.out.size
            go_wp2
            go_loopw [98] (fun vi wr => ∃ i : Nat, i ≤ r ∧ vi = .int .i64 i ∧ Below w4.heap.size w4 wr) (fun i _ => r - (intOf i).toNat)
            case atStart => exact ⟨0, by omega, rfl, Below.refl _ _⟩
            case round =>
              obtain ⟨i, hi, rfl, hb⟩ := hrel
              by_cases hir : i < r
              · obtain ⟨g2, c2, hv2, hgl2, hcc2⟩ := HL4.out.at_ (by rw [HML2.out]; omega)
                injection hv2 with hA2 hn2 hc2'
                subst hA2
                clear hn2 hc2'
                obtain ⟨Ax, cx, p0, p1, p2, p3, p4⟩ := hcc2 i (by rw [HML2.out]; exact hir)
                obtain ⟨Ay, cy, r0, r1, r2, r3, r4⟩ := HC.out (i + 1) (by rw [HML.out, HRr.out]; omega)
                have hsi := hsh.out i hir
                obtain ⟨bd1, bd2⟩ := hbd.out (i + 1) (by rw [HRr.out]; omega)
                have hgx : (lnAt L (i + 1)).gs = (lnAt L2 i).gs := by rw [hsi]; rfl
                have hfx : ((lnAt L (i + 1)).f : Int) = ((lnAt L2 i).f : Int) + (T : Int) := by rw [hsi]; simp [shiftLn]; omega
                have htx : ((lnAt L (i + 1)).t : Int) = ((lnAt L2 i).t : Int) + (T : Int) := by rw [hsi]; simp [shiftLn]; omega
                have bd1' : ((lnAt L2 i).f : Int) + (T : Int) ≤ 256 := by omega
                have bd2' : ((lnAt L2 i).t : Int) + (T : Int) ≤ 256 := by omega
                rw [hfx] at r0
                rw [htx] at r1
                rw [hgx] at r3 r4
                have HEq : Hid (∀ w5, Below wr.heap.size wr w5 → Calls Try.prog 9 #[.slice Ax (lnAt L2 i).gs.length cx, .slice Ay (lnAt L2 i).gs.length cy] w5 fun e w' => e = .returned (.bool true) ∧ Same w5 w') := fun w5 h5 => by
                  refine (equal_ints _ _ _ _ w5 _ _ ((p4.later hb).later h5) (((r4.later (below_undrew HB4.out)).later hb).later h5)).mono ?_
                  rintro e w' ⟨rfl, hs⟩
                  exact ⟨by simp, hs⟩
                have u0 := (hb.cell (p := ⟨g2, i * 4, none⟩) hgl2).trans p0
                have u1 := (hb.cell (p := ⟨g2, i * 4 + 1, none⟩) hgl2).trans p1
                have u2 := (hb.cell (p := ⟨g2, i * 4 + 2, none⟩) hgl2).trans p2
                have u3 := (hb.cell (p := ⟨g2, i * 4 + 3, none⟩) hgl2).trans p3
                have hb4 : Below w2.heap.size w2 wr := (below_undrew HB4.out).trans (hb.mono HB4.out.size)
                have v0 := (hb4.cell (p := ⟨gL, (i + 1) * 4, none⟩) hgl).trans r0
                have v1 := (hb4.cell (p := ⟨gL, (i + 1) * 4 + 1, none⟩) hgl).trans r1
                have v2 := (hb4.cell (p := ⟨gL, (i + 1) * 4 + 2, none⟩) hgl).trans r2
                have v3 := (hb4.cell (p := ⟨gL, (i + 1) * 4 + 3, none⟩) hgl).trans r3
                have z1 := Nat.lt_of_lt_of_le hgl2 hb.size
                have z2 := Nat.lt_of_lt_of_le hgl4 hb.size
                have hir2 : i + 1 < ml := by rw [HRr.out]; omega
                have HB := Lib.hid hb
                clear hcc2 p0 p1 p2 p3 p4 r0 r1 r2 r3 r4 hsi bd1 bd2 hgx hfx htx hb hb4 q2 q3
                generalize (lnAt L2 i).f = ff at *
                generalize (lnAt L2 i).t = tt at *
                generalize (lnAt L2 i).gs.length = gn at *
                generalize (lnAt L2 i).hy = h1 at *
                generalize (lnAt L (i + 1)).hy = h2 at *
                go_wp2_with (go_at_call 9; refine (HEq.out _ (((Below.refl _ _).alloc (Nat.le_refl _) _).alloc (by simp) _)).mono ?_; rintro e w5 ⟨rfl, q, rfl⟩)
                go_roundw
                case rel => exact ⟨i + 1, by omega, by go_num, below_drewN ((HB.out.alloc HB.out.size _).alloc (by simp; have := HB.out.size; omega) _) _⟩
                case measure => simp [intOf]; omega
              · obtain rfl : i = r := by omega
                go_wp2
                go_ret
                exact ⟨rfl, HB5.out.trans (hb.mono HB5.out.size)⟩
end Go.Proofs.Ytajmdgkchleipaa
