/- The walk of Break: the best division into lines. -/
import Derived.Test.YtajmdgkchleipaaDp2
import Derived.StillTailTactics
import Derived.BigRegion
import Derived.Deep.QuietTactic
import Derived.BigQuiet
namespace Go.Proofs.Ytajmdgkchleipaa
open Go.RowKit Para
theorem eLine : ElemK Try.prog 26 35 (.agg #[.int .i64 0, .int .i64 0, .bool false, .slice none 0 0]) 4 48 := ElemK.mk_ Try.underlying26 (by kernel_rfl) rfl
theorem lnOf_own {s : Shape} {l : List Part} {i k q B : Nat} {w6 : World} {gv : Value} (h : w6.ownsRow B 3 1 gv (fixG (l.drop i) k).toNat (ints (gapsTo (roomOf s (l.drop i) k) (fixG (l.drop i) k).toNat (fixG (l.drop i) k).toNat))) (hq : q = i + k) :
    w6.ownsRow B 3 1 gv (lnOf s l (i, q)).gs.length (ints (lnOf s l (i, q)).gs) := by
  have e1 : q - i = k := by rw [hq, Nat.add_sub_cancel_left]
  have e2 : (lnOf s l (i, q)).gs = gapsTo (roomOf s (l.drop i) k) (fixG (l.drop i) k).toNat (fixG (l.drop i) k).toNat := by
    simp only [lnOf]; rw [e1]
  rw [e2, show (gapsTo (roomOf s (l.drop i) k) (fixG (l.drop i) k).toNat (fixG (l.drop i) k).toNat).length = (fixG (l.drop i) k).toNat by simp [gapsTo]]
  exact h
def BrkOk (ws : List Wd) (s : Shape) (w : World) (e : Ending) (w' : World) : Prop :=
  Good ws s ∧ ∃ (b : Int × Nat) (A : Option Addr) (c : Nat), best s (flatW ws) = some b ∧ e = .returned (.tuple #[.slice A (linesOf s (flatW ws)).length c, .int .i64 b.1, .int .i64 0]) ∧ LinesIn w' w.heap.size (.slice A (linesOf s (flatW ws)).length c) (linesOf s (flatW ws))
def BrkPost (ws : List Wd) (s : Shape) (w : World) (e : Ending) (w' : World) : Prop :=
  Below w.heap.size w w' ∧ ((∃ z : Int, z ≠ 0 ∧ e = .returned (.tuple #[.slice none 0 0, .int .i64 0, .int .i64 z]) ∧ (Good ws s → best s (flatW ws) = none)) ∨ BrkOk ws s w e w')
/-- append of one element of several cells as a step of a region that draws its order, the new value written out. -/
theorem step_pushk_form {P : Program} {w : World} {ops : Array Oper} {o : Oper} {a : Act} {K : Act → World → Prop} {Q : Exit → Act → World → Prop} {E : Prop} {t e : TypeId} {z : Value} {size bytes : Nat} (T : ElemK P t e z size bytes) (hgd : o.guard = none) (s x : Operand)
    (ho : o.op = .call { callee := .builtin .append, args := #[s, x], argTypes := #[t, t] })
    (base : Nat) (v : Value) (n : Nat) (xs : List Value) (hs : a.eval s = v) (hown : w.ownsRow base e size v n xs)
    (ad : Addr) (c : Nat) (news : List Value) (hx : a.eval x = .slice (some ad) 1 c) (hl : news.length = 1 * size) (hu : ∀ j u, news[j]? = some u → w.cell? (ad.add j) = some u) (h1 : ∀ u ∈ news, u.oneCell' = true) (hbytes : (n + 1) * bytes ≤ 140737488355328) (hpos : 0 < bytes) (hsz : 0 < size) (hbase : base ≤ w.heap.size)
    (h : ∀ g cap w', w'.ownsRow base e size (.slice (some ⟨g, 0, none⟩) (n + 1) cap) (n + 1) (xs ++ news) → w.grownBy w' v.ownBlock → (some g = v.ownBlock ∨ g = w.heap.size) → K (a.put o.dst (.slice (some ⟨g, 0, none⟩) (n + 1) cap)) w') :
    if Region.wanted o (yielded ops a.tmps) = true then Oper.wp P o a w K Q else E := by
  have hw : Region.wanted o (yielded ops a.tmps) = true := by simp [Region.wanted, hgd]
  rw [if_pos hw]
  obtain ⟨i, h2, h3, h4, h5⟩ := T.hi
  have hlen : n + 1 ≤ maxLen := by
    have := Nat.le_mul_of_pos_right (n + 1) hpos
    unfold maxLen; omega
  obtain ⟨v', w', hrun, a1, a2, _, a4⟩ := run_append_own_at (P := P) w base t o.type e i z size bytes T.ht h2 h3 h4 h5 T.hz hsz v n xs hown ad 1 c news hl hu h1 hlen hbytes hbase
  unfold Oper.wp execOp
  simp only [ho, resolve, invoke, builtin, Sem.run_bind, Sem.run_pure, Result.andThen_ok, List.map_toArray, List.map_cons, List.map_nil, hs, hx, hrun]
  obtain ⟨g, cap, rfl, _, _⟩ := a1.form (by omega)
  exact h g cap w' a1 a2 (by simpa [Value.ownBlock] using a4)
theorem zerosA (w : World) (t : TypeId) (n : Nat) : IRow (w.alloc (.cells (Array.replicate n (Value.int .i64 0)) t)) w.heap.size (List.replicate n 0) := by
  have := IRow.zeros w t n
  rwa [List.toArray_replicate] at this
theorem two_rows (w : World) (a b : Nat) : IRow ((w.alloc (.cells (Array.replicate a (Value.int .i64 0)) 3)).alloc (.cells (Array.replicate b (Value.int .i64 0)) 3)).drew w.heap.size (List.replicate a 0) ∧
    IRow ((w.alloc (.cells (Array.replicate a (Value.int .i64 0)) 3)).alloc (.cells (Array.replicate b (Value.int .i64 0)) 3)).drew (w.heap.size + 1) (List.replicate b 0) ∧
    Below w.heap.size w ((w.alloc (.cells (Array.replicate a (Value.int .i64 0)) 3)).alloc (.cells (Array.replicate b (Value.int .i64 0)) 3)).drew := by
  refine ⟨((zerosA w 3 a).alloc _).drew, ?_, (((Below.refl w.heap.size w).alloc (Nat.le_refl _) _).alloc (by simp) _).drew⟩
  have := (zerosA (w.alloc (.cells (Array.replicate a (Value.int .i64 0)) 3)) 3 b).drew
  simpa using this
set_option maxHeartbeats 4000000 in
set_option maxRecDepth 100000 in
theorem break_any (b off c : Nat) (ws : List Wd) (s : Shape) (w : World) (hW : WordsIn w b off ws) (hn : 0 < ws.length) (hm : ws.length ≤ 9223372036854775807) :
    Calls Try.prog 7 #[.slice (some ⟨b, off, none⟩) ws.length c, .agg #[.int .i64 s.W, .int .i64 s.S, .int .i64 s.Lo, .int .i64 s.Mo, .int .i64 s.H, .int .i64 s.C]] w (BrkPost ws s w) := by
  have hb0 := (Below.refl w.heap.size w).alloc (Nat.le_refl _) (Obj.cells #[.int .i64 s.W, .int .i64 s.S, .int .i64 s.Lo, .int .i64 s.Mo, .int .i64 s.H, .int .i64 s.C] 24)
  have hChk : Calls Try.prog 10 #[.slice (some ⟨b, off, none⟩) ws.length c, .agg #[.int .i64 s.W, .int .i64 s.S, .int .i64 s.Lo, .int .i64 s.Mo, .int .i64 s.H, .int .i64 s.C]] (w.alloc (Obj.cells #[.int .i64 s.W, .int .i64 s.S, .int .i64 s.Lo, .int .i64 s.Mo, .int .i64 s.H, .int .i64 s.C] 24)) (ChkPost (Good ws s) (w.alloc (Obj.cells #[.int .i64 s.W, .int .i64 s.S, .int .i64 s.Lo, .int .i64 s.Mo, .int .i64 s.H, .int .i64 s.C] 24))) := by
    by_cases h : ws.length ≤ 128
    · exact check_words b off c ws s _ (hW.later hb0) h
    · exact check_large _ _ _ s _ _ (by omega) hm (fun g => h g.n)
  have HChk := Lib.hid hChk
  have HW := Lib.hid hW
  clear hChk hb0 hW
  go_enter Try.func7, Try.ntmps7
  go_wp2_with fail
  refine HChk.out.mono ?_; rintro e w1 ⟨z, rfl, hz, hb1⟩
  by_cases hg : Good ws s
  · have hz0 : z = 0 := hz.2 hg
    subst hz0
    clear hz HChk
    have hsh := hg.sh
    have hlen : (flatW ws).length ≤ 256 := by
      have := hg.tot ws.length (Nat.le_refl _)
      rwa [List.take_of_length_le (Nat.le_refl _)] at this
    have hpos := flatW_pos ws hn fun i hi => (hg.all i hi).ok
    have hok := flatW_ok hg.all
    have hbw := (((Below.refl w.heap.size w).alloc (Nat.le_refl _) (Obj.cells #[.int .i64 s.W, .int .i64 s.S, .int .i64 s.Lo, .int .i64 s.Mo, .int .i64 s.H, .int .i64 s.C] 24))).trans (hb1.mono (by simp))
    have hF := flat_any b off c ws w1 (HW.out.later hbw) hg.n (fun i hi => (hg.all i hi).ok) hg.tot
    have hX := (Blk.new w 24 #[.int .i64 s.W, .int .i64 s.S, .int .i64 s.Lo, .int .i64 s.Mo, .int .i64 s.H, .int .i64 s.C]).below hb1 (by simp)
    have HF := Lib.hid hF
    have HG := Lib.hid hg
    have HSh := Lib.hid hsh
    have HOk := Lib.hid hok
    have HX := Lib.hid hX
    have HBW := Lib.hid hbw
    clear hF hg hsh hok hX hbw hb1 HW
    go_wp2_with fail
    refine HF.out.mono ?_; rintro e w2 ⟨v, rfl, ho, hb2⟩
    obtain ⟨g, cap, rfl, hP⟩ := parts_of_own ho hpos
    have hX2 := Blk.below HX.out hb2 (Blk.lt HX.out)
    have hbw2 := HBW.out.trans (hb2.mono HBW.out.size)
    have HP := Lib.hid hP
    have HX := Lib.hid hX2
    have HBW := Lib.hid hbw2
    have hPost : Hid (∀ e w', BrkOk ws s w e w' → Below w.heap.size w w' → BrkPost ws s w e w') := fun _ _ h1 h2 => ⟨h2, .inr h1⟩
    have hPostN : Hid (best s (flatW ws) = none → ∀ w', Below w.heap.size w w' → BrkPost ws s w (.returned (.tuple #[.slice none 0 0, .int .i64 0, .int .i64 8])) w') := fun h1 _ h2 => ⟨h2, .inl ⟨8, by omega, rfl, fun _ => h1⟩⟩
    have hOk : Hid (∀ e w', (∃ (b : Int × Nat) (A : Option Addr) (c : Nat), best s (flatW ws) = some b ∧ e = .returned (.tuple #[.slice A (linesOf s (flatW ws)).length c, .int .i64 b.1, .int .i64 0]) ∧ LinesIn w' w.heap.size (.slice A (linesOf s (flatW ws)).length c) (linesOf s (flatW ws))) → BrkOk ws s w e w') := fun _ _ h => ⟨HG.out, h⟩
    clear HF HG ho hb2 hX2 hbw2 hP
    generalize BrkPost ws s w = Post at *
    generalize flatW ws = l at *
    generalize hnn : l.length = n at *
    have HN := Lib.hid hnn
    clear hnn
    have m1 := run_make1 (P := Try.prog) eInt rfl (n + 1) ((n : Int) + 1) (by omega) (by omega) (by omega)
    have m2 := run_make1 (P := Try.prog) eInt rfl n (n : Int) (by omega) (by omega) (by omega)
    go_upto_region 6 with (fail)
    go_cut [10, 11] (fun v10 v11 wx => ∃ g1 g2, v10 = .slice (some ⟨g1, 0, none⟩) (n + 1) (n + 1) ∧ v11 = .slice (some ⟨g2, 0, none⟩) n n ∧ g1 ≠ g2 ∧ w2.heap.size ≤ g1 ∧ w2.heap.size ≤ g2 ∧ IRow wx g1 (List.replicate (n + 1) 0) ∧ IRow wx g2 (List.replicate n 0) ∧ Below w2.heap.size w2 wx)
    case first =>
      go_region
      all_goals (go_wp2; go_meet)
      · obtain ⟨r1, r2, r3⟩ := two_rows w2 (n + 1) n
        exact ⟨_, _, rfl, rfl, by omega, by omega, by omega, r1, r2, r3⟩
      · obtain ⟨r1, r2, r3⟩ := two_rows w2 n (n + 1)
        exact ⟨_, _, rfl, rfl, by omega, by omega, by omega, r2, r1, r3⟩
    case rest =>
      clear m1 m2
      obtain ⟨g1, g2, rfl, rfl, hne, h1, h2, r1, r2, hb⟩ := hcut
      have hwz := HX.out.lt
      have hXX : Hid (∀ wi, Below w2.heap.size w2 wi → w.heap.size < wi.heap.size ∧ wi.cell? ⟨w.heap.size, 0, none⟩ = some (.int .i64 s.W) ∧ wi.cell? ⟨w.heap.size, 1, none⟩ = some (.int .i64 s.S) ∧ wi.cell? ⟨w.heap.size, 2, none⟩ = some (.int .i64 s.Lo) ∧ wi.cell? ⟨w.heap.size, 3, none⟩ = some (.int .i64 s.Mo) ∧ wi.cell? ⟨w.heap.size, 4, none⟩ = some (.int .i64 s.H) ∧ wi.cell? ⟨w.heap.size, 5, none⟩ = some (.int .i64 s.C)) := by
        intro wi hb
        have := Blk.below HX.out hb (Blk.lt HX.out)
        exact ⟨this.lt, this.cell 0, this.cell 1, this.cell 2, this.cell 3, this.cell 4, this.cell 5⟩
      have hCost : Hid (∀ wi, Below w2.heap.size w2 wi → ∀ q k, q < k → k ≤ n → Calls Try.prog 12 #[.slice (some ⟨g, 0, none⟩) n cap, .int .i64 (q : Int), .int .i64 (k : Int), .agg #[.int .i64 s.W, .int .i64 s.S, .int .i64 s.Lo, .int .i64 s.Mo, .int .i64 s.H, .int .i64 s.C]] wi
          fun e w' => (e = .returned (.tuple #[.int .i64 (if permitted s (l.drop q) (k - q) = true then costOf s (l.drop q) (k - q) else 0), .bool (permitted s (l.drop q) (k - q))])) ∧ Below wi.heap.size wi w') := by
        intro wi hb q k h1 h2
        have := cost_any l g cap q k s wi (by rw [HN.out]; exact hlen) (HP.out.later hb) HOk.out HSh.out h1 (by rw [HN.out]; exact h2)
        rwa [HN.out] at this
      go_wp2
      go_loopw [12, 13, 14, 15] (fun vi _ _ _ wr => ∃ (j : Nat) (B N : List Int), j ≤ n ∧ vi = .int .i64 ((j : Int) - 1) ∧ DP s l j B N ∧ IRow wr g1 B ∧ IRow wr g2 N ∧ Below w2.heap.size w2 wr) (fun vi _ _ _ _ => (intOf vi + 1).toNat)
      case atStart =>
        have := dp_start s l
        rw [HN.out] at this
        exact ⟨n, _, _, Nat.le_refl _, rfl, this, r1, r2, hb⟩
      case round =>
        obtain ⟨j, B, N, hj, rfl, hdp, i1, i2, hbr⟩ := hrel
        clear r1 r2 hb
        have HBR := Lib.hid hbr
        have HI1 := Lib.hid i1
        have HI2 := Lib.hid i2
        have HDP := Lib.hid hdp
        clear hbr i1 i2 hdp
        by_cases hj0 : j = 0
        · subst hj0
          rw [show ((0 : Nat) : Int) - 1 = -1 from rfl]
          have hl0 := hlen
          have c1 := HI1.out.at_ (i := 0) (by rw [HDP.out.lb]; omega)
          have e1 := HI1.out.lt
          have hb00 := HDP.out.b 0 (by omega) (by omega)
          rw [List.drop_zero] at hb00
          clear hCost
          rcases hR : best s l with _ | b'
          · have hy : Hid (B.getD 0 0 = -1) := by unfold Hid; rw [hb00, hR]; rfl
            have HR := Lib.hid hR
            rw [hy.out] at c1
            clear hR hb00 hOk
            go_wp2
            go_ret3
            exact hPostN.out HR.out _ (HBW.out.trans (HBR.out.mono HBW.out.size))
          · have hy : Hid (B.getD 0 0 = b'.1) := by unfold Hid; rw [hb00, hR]; rfl
            have hb0 := (best_bd HSh.out HOk.out (by rw [HN.out]; exact hlen) _ 0 rfl (by omega) b'.1 b'.2 (by rw [List.drop_zero]; exact hR)).1
            have HR := Lib.hid hR
            rw [hy.out] at c1
            have HBs : Hid (best s l = some (b'.1, b'.2)) := hR
            clear hR hb00 hPostN HR
            generalize b'.1 = bz at *
            obtain ⟨wo, rfl⟩ : ∃ wo : World, wo = wr := ⟨_, rfl⟩
            have hLine : Hid (∀ wi, Below w2.heap.size w2 wi → ∀ q k, q < k → k ≤ n → fixW s (l.drop q) (k - q) ≤ s.W → Calls Try.prog 13 #[.slice (some ⟨g, 0, none⟩) n cap, .int .i64 (q : Int), .int .i64 (k : Int), .agg #[.int .i64 s.W, .int .i64 s.S, .int .i64 s.Lo, .int .i64 s.Mo, .int .i64 s.H, .int .i64 s.C]] wi (LinePost l q k s wi)) := by
              intro wi hb q k h1 h2 h3
              have := line_any l g cap q k s wi (by rw [HN.out]; exact hlen) (HP.out.later hb) HOk.out HSh.out h1 (by rw [HN.out]; exact h2) h3
              rwa [HN.out] at this
            go_wp2
            go_loopw [16, 17] (fun vo vi wi => ∃ (i f : Nat) (D : List Ln), i ≤ n ∧ vi = .int .i64 (i : Int) ∧ n ≤ i + f ∧ best s (l.drop i) ≠ none ∧ D ++ (cuts s l f i).map (lnOf s l) = linesOf s l ∧ LinesIn wi wo.heap.size vo D ∧ Below wo.heap.size wo wi) (fun _ i _ => n - (intOf i).toNat)
            case atStart =>
              refine ⟨0, n, [], by omega, rfl, by omega, ?_, ?_, LinesIn.nil _ _, Below.refl _ _⟩
              · rw [List.drop_zero, HBs.out]; exact fun h => by cases h
              · rw [List.nil_append, linesOf, HN.out]
            case round =>
              obtain ⟨i, f, D, hi, rfl, hf, hbs, hD, hlines, hbl⟩ := hrel
              by_cases hlt : i < n
              · obtain ⟨⟨cc, k⟩, hbk⟩ := Option.ne_none_iff_exists'.1 hbs
                obtain ⟨k1, k2, k3, ⟨bt1, bt2⟩, k4, k5⟩ := best_some (by rw [HN.out]; exact hlt) hbk
                have hfit := permitted_fit HSh.out (HOk.out.drop i) k3
                obtain ⟨f, rfl⟩ : ∃ f', f = f' + 1 := ⟨f - 1, by omega⟩
                rw [cuts_step (by rw [HN.out]; exact hlt) hbk] at hD
                rw [HN.out] at k2
                have hbw := HBR.out.trans (hbl.mono HBR.out.size)
                have hI2 := HI2.out.below hbl HI2.out.lt
                have cN := hI2.at_ (i := i) (by rw [HDP.out.ln, HN.out]; exact hlt)
                rw [HDP.out.n i (by omega) (by rw [HN.out]; exact hlt) cc k hbk] at cN
                have eN := hI2.lt
                have hDl : D.length ≤ 256 := by
                  have e1 : (linesOf s l).length ≤ n := by
                    have := cuts_len s l l.length 0
                    unfold linesOf; rw [List.length_map]; rw [HN.out] at this ⊢; exact this
                  rw [← hD, List.length_append] at e1
                  omega
                obtain ⟨q, hq⟩ : ∃ q, q = i + k := ⟨_, rfl⟩
                have hL := hLine.out wr.drew hbw.drew i q (by omega) (by omega) (by rw [hq, Nat.add_sub_cancel_left]; exact hfit)
                have HL := Lib.hid hL
                rw [← hq] at cN
                obtain ⟨x, x0, x1, x2, x3, x4, x5⟩ := hXX.out wr hbw
                obtain ⟨gs, hgl, hown, hall⟩ := hlines
                obtain ⟨Ao, co, rfl⟩ := own_form hown
                have HD := Lib.hid hD
                have HOwn := Lib.hid hown
                have HAll := Lib.hid hall
                have HGl := Lib.hid hgl
                have HBL := Lib.hid hbl
                have HBK := Lib.hid hbk
                have HK4 := Lib.hid k4
                have HQ := Lib.hid hq
                have k6 : q ≤ n := by omega
                have hos := hbl.size
                have HC2 : Hid (∀ w7, Below wo.heap.size wo w7 → w7.cell? ⟨g2, i, none⟩ = some (.int .i64 (q : Int))) := fun w7 hb => by
                  have hI := HI2.out.below hb HI2.out.lt
                  have c0 := hI.at_ (i := i) (by rw [HDP.out.ln, HN.out]; exact hlt)
                  rw [HDP.out.n i (by omega) (by rw [HN.out]; exact hlt) cc k hbk, ← hq] at c0
                  exact c0
                clear hD hown hall hgl hbl hbk k3 k4 k5 hfit hL hbw hI2 hbs hq
                go_wp2
                go_region_law (first
                  | (refine step_pushk_form eLine rfl (.tmp 104) (.tmp 113) rfl wo.heap.size (.slice Ao D.length co) D.length _ rfl (HO6.out.alloc _) ⟨w6.heap.size, 0, none⟩ 1 [.int .i64 (i : Int), .int .i64 (q : Int), .bool la, .slice Ag G cg] rfl rfl (news_new _ _ _ _ rfl) (by simp [Value.oneCell']) (by omega) (by omega) (by omega) (le_alloc hs6 _) ?_; intro g7 cap7 w7 hown7 hg7 hk7; have hb7 := (HB6.out.alloc hs6 (Obj.cells #[.int .i64 (i : Int), .int .i64 (q : Int), .bool la, .slice Ag G cg] 35)).grown hg7 (le_alloc hs6 _) (fun k hk => (own_lt HO6.out k hk).1); have f1 := HC2.out w7 hb7; have f2 := Nat.lt_of_lt_of_le HI2.out.lt hb7.size; have HB7 := Lib.hid hb7; clear hb7)
                  | (go_simp; go_at_call 13; refine HL.out.mono ?_; rintro e w6 ⟨gv, rfl, hgv, hbl6⟩; rw [HQ.out, Nat.add_sub_cancel_left] at hgv; have hgl6 := lnOf_own hgv HQ.out; obtain ⟨Ag, cg, rfl⟩ := own_form hgv; have hb6 : Below wo.heap.size wo w6 := HBL.out.drew.trans (hbl6.mono hos); have ho6 := own_below HOwn.out.drew hbl6; have HG6 := Lib.hid hgl6; have HBL6 := Lib.hid hbl6; have HB6 := Lib.hid hb6; have HO6 := Lib.hid ho6; have hs6 := hb6.size; clear hgv hgl6 hbl6 hb6 ho6; generalize (fixG (l.drop i) k).toNat = G at *; generalize hla : (!(pt l (q - 1)).last) = la at *; have HLA := Lib.hid hla; clear hla))
                all_goals
                  go_wp2
                  go_roundw
                  case rel =>
                    refine ⟨q, f, D ++ [lnOf s l (i, q)], k6, rfl, by have := HQ.out; omega, ?_, ?_, ?_, HB7.out⟩
                    · rw [HQ.out, HK4.out]; exact fun h => by cases h
                    · rw [← HD.out, List.append_assoc, HQ.out]; rfl
                    · have e : lcells (lnOf s l (i, q)) (.slice Ag G cg) = [.int .i64 (i : Int), .int .i64 (q : Int), .bool la, .slice Ag G cg] := by rw [← HLA.out]; rfl
                      rw [← e] at hown7
                      exact lines_push HGl.out HOwn.out.drew HAll.out hos HBL6.out HG6.out hown7 hg7 (by simpa [Value.ownBlock] using hk7)
                  case measure => simp [intOf]; have := HQ.out; omega
              · obtain rfl : i = n := by omega
                rw [cuts_end _ _ _ _ (by rw [HN.out]; exact Nat.le_refl _)] at hD
                rw [List.map_nil, List.append_nil] at hD
                subst hD
                obtain ⟨Ao, co, rfl⟩ := hlines.form
                have cN := (hbl.cell (p := ⟨g1, 0, none⟩) HI1.out.lt).trans c1
                have eN := Nat.lt_of_lt_of_le e1 hbl.size
                have HLi := Lib.hid hlines
                have HBL := Lib.hid hbl
                clear hlines hbl hbs hf c1
                go_wp2
                go_quiet (fail)
                go_wp2
                go_ret3
                refine hPost.out _ _ (hOk.out _ _ ⟨(bz, b'.2), Ao, co, HBs.out, rfl, ?_⟩) ?_
                · exact (HLi.out.base (Nat.le_trans HBW.out.size HBR.out.size))
                · exact below_drewN (HBW.out.trans ((HBR.out.trans (HBL.out.mono HBR.out.size)).mono HBW.out.size)) _
        · obtain ⟨q, rfl⟩ : ∃ q, j = q + 1 := ⟨j - 1, by omega⟩
          rw [show ((q + 1 : Nat) : Int) - 1 = (q : Int) by omega]
          clear hj0
          have hq : q < n := by omega
          have HL := HDP.out.lb
          have c1 := HI1.out.at_ (i := q) (by rw [HL, HN.out]; omega)
          have f1 := HI1.out.free_ (i := q) (by rw [HL, HN.out]; omega)
          have e1 := HI1.out.lt
          generalize B.getD q 0 = bq at c1
          have HE := Lib.hid HL
          clear HL
          go_wp2
          go_loopw [13, 14, 15] (fun vk _ _ wi => ∃ (k m : Nat) (B N : List Int), m ≤ n - q ∧ k = q + 1 + m ∧ vk = .int .i64 (k : Int) ∧ DPin s l q m B N ∧ IRow wi g1 B ∧ IRow wi g2 N ∧ Below w2.heap.size w2 wi) (fun vk _ _ _ => n + 1 - (intOf vk).toNat)
          case atStart =>
            refine ⟨q + 1, 0, B.set q (-1), N, by omega, by omega, rfl, dp_open HDP.out (by rw [HN.out]; exact hq), HI1.out.put (by rw [HE.out, HN.out]; omega) (-1), HI2.out.far (by simpa using fun e => hne e.symm) _, HBR.out.setCell (by simpa using h1) _⟩
          case round =>
            obtain ⟨k, m, B2, N2, hm, hk, rfl, hdp, i1, i2, hbi⟩ := hrel
            clear c1 f1 HI1 HI2 HBR HDP HE e1
            have HBI := Lib.hid hbi
            have HI1 := Lib.hid i1
            have HI2 := Lib.hid i2
            have HDP := Lib.hid hdp
            have HK := Lib.hid hk
            clear hbi i1 i2 hdp
            by_cases hlt : m < n - q
            · obtain ⟨x, x0, x1, x2, x3, x4, x5⟩ := hXX.out wr HBI.out
              have hC := hCost.out wr HBI.out q k (by omega) (by omega)
              rw [show k - q = m + 1 by omega] at hC
              have hkn : k ≤ n := by omega
              have ek : k = q + (m + 1) := by omega
              have hL1 := HDP.out.lb
              have hL2 := HDP.out.ln
              rw [HN.out] at hL1 hL2
              have hbk := HDP.out.b k (by omega) (by rw [HN.out]; exact hkn)
              have hbq := HDP.out.bi
              have hrg := rows_get s l q m (by rw [HN.out]; omega)
              rw [← ek] at hrg
              have hlt1 := HI1.out.lt
              have hlt2 := HI2.out.lt
              have rel' : Hid (∀ w4 B4 N4, DPin s l q (m + 1) B4 N4 → IRow w4 g1 B4 → IRow w4 g2 N4 → Below w2.heap.size w2 w4 → ∃ (k' m' : Nat) (B N : List Int), m' ≤ n - q ∧ k' = q + 1 + m' ∧ Value.int .i64 ((k : Int) + 1) = .int .i64 (k' : Int) ∧ DPin s l q m' B N ∧ IRow w4 g1 B ∧ IRow w4 g2 N ∧ Below w2.heap.size w2 w4) :=
                fun w4 B4 N4 a1 a2 a3 a4 => ⟨k + 1, m + 1, B4, N4, by omega, by omega, by go_num, a1, a2, a3, a4⟩
              have HLT : Hid (∀ w4, Below wr.heap.size wr w4 → IRow w4 g1 B2 ∧ IRow w4 g2 N2 ∧ Below w2.heap.size w2 w4 ∧ g1 < w4.heap.size ∧ g2 < w4.heap.size ∧ w4.cell? ⟨g1, k, none⟩ = some (.int .i64 (B2.getD k 0)) ∧ w4.cell? ⟨g1, q, none⟩ = some (.int .i64 (B2.getD q 0)) ∧ w4.frozen? ⟨g1, q, none⟩ = false ∧ w4.cell? ⟨g2, q, none⟩ = some (.int .i64 (N2.getD q 0)) ∧ w4.frozen? ⟨g2, q, none⟩ = false) := by
                intro w4 hb4
                have a1 := HI1.out.below hb4 hlt1
                have a2 := HI2.out.below hb4 hlt2
                exact ⟨a1, a2, HBI.out.trans (hb4.mono HBI.out.size), a1.lt, a2.lt, a1.at_ (by omega), a1.at_ (by omega), a1.free_ (by omega), a2.at_ (by omega), a2.free_ (by omega)⟩
              clear hk hlt1 hlt2
              by_cases hp : permitted s (l.drop q) (m + 1) = true
              · rw [if_pos hp, hp] at hC
                have hcb := cost_bd HSh.out (HOk.out.drop q) (m + 1) (by omega)
                have hcM : costOf s (l.drop q) (m + 1) ≤ 1600000001048576 := hcb.2
                have hc0 := hcb.1
                clear hcb
                rcases hR : best s (l.drop k) with _ | b'
                · rw [hR] at hbk hrg
                  have hsc := scan_none s (l.drop q) ((rows s l).drop (q + 1)) m hrg
                  have HS := Lib.hid hsc
                  have HC := Lib.hid hC
                  have HBK := Lib.hid hbk
                  clear hsc hC hbk hrg hR hbq hp hL1 hL2 ek
                  generalize costOf s (l.drop q) (m + 1) = cst at *
                  go_wp2_with fail
                  refine HC.out.mono ?_; rintro e w3 ⟨rfl, hb3⟩
                  obtain ⟨a1, a2, a3, a4, a5, a6, a7, a8, a9, a10⟩ := HLT.out w3 hb3
                  rw [HBK.out] at a6
                  have a6' : w3.cell? ⟨g1, k, none⟩ = some (.int .i64 (-1)) := a6
                  have A1 := Lib.hid a1
                  have A2 := Lib.hid a2
                  have A3 := Lib.hid a3
                  clear a1 a2 a3 a6 x0 x1 x2 x3 x4 x5 hb3
                  go_wp2
                  go_roundw
                  case rel => exact rel'.out _ _ _ (dp_skip HDP.out HS.out) A1.out A2.out A3.out
                  case measure => simp [intOf]; omega
                · rw [hR] at hbk hrg
                  have hbb := best_bd HSh.out HOk.out (by rw [HN.out]; exact hlen) _ k rfl (by rw [HN.out]; exact hkn) b'.1 b'.2 hR
                  rw [HN.out] at hbb
                  have hb0 := hbb.1
                  have hbM : b'.1 ≤ 1600000001048576 * 256 := by
                    have := hbb.2
                    unfold M at this
                    omega
                  clear hbb
                  have HC := Lib.hid hC
                  have HBK : Hid (B2.getD k 0 = b'.1) := hbk
                  have HBQ := Lib.hid hbq
                  have HRG := Lib.hid hrg
                  have HPP := Lib.hid hp
                  have HL1 := Lib.hid hL1
                  have HL2 := Lib.hid hL2
                  have HCE : Hid (costOf s (l.drop q) (m + 1) = costOf s (l.drop q) (m + 1)) := rfl
                  rcases hS : scan s (l.drop q) ((rows s l).drop (q + 1)) m with _ | a
                  · have hsc := scan_first s (l.drop q) ((rows s l).drop (q + 1)) m b' hp hrg hS
                    have hy : Hid (B2.getD q 0 = -1) := by unfold Hid; rw [HBQ.out, hS]; rfl
                    have HS : Hid (∀ z, z = costOf s (l.drop q) (m + 1) + b'.1 → DPin s l q (m + 1) (B2.set q z) (N2.set q (k : Int))) := by
                      intro z hz; subst hz
                      have := dp_take HDP.out (by rw [HN.out]; exact hq) hsc
                      rwa [← ek] at this
                    clear hsc hC hbk hrg hR hbq hp hL1 hL2 ek hS HCE
                    generalize costOf s (l.drop q) (m + 1) = cst at *
                    go_wp2_with fail
                    refine HC.out.mono ?_; rintro e w3 ⟨rfl, hb3⟩
                    obtain ⟨a1, a2, a3, a4, a5, a6, a7, a8, a9, a10⟩ := HLT.out w3 hb3
                    rw [HBK.out] at a6
                    rw [hy.out] at a7
                    have A1 := Lib.hid a1
                    have A2 := Lib.hid a2
                    have A3 := Lib.hid a3
                    generalize N2.getD q 0 = nq at a9
                    generalize b'.1 = bz at *
                    clear a1 a2 a3 x0 x1 x2 x3 x4 x5 hb3
                    go_wp2
                    go_roundw
                    case rel => exact rel'.out _ _ _ (HS.out _ rfl) ((A1.out.put (by rw [HL1.out]; omega) _).far hne _) ((A2.out.far (fun e => hne e.symm) _).put (by rw [HL2.out]; omega) _) ((A3.out.setCell h1 _).setCell h2 _)
                    case measure => simp [intOf]; omega
                  · have hy : Hid (B2.getD q 0 = a.1) := by unfold Hid; rw [HBQ.out, hS]; rfl
                    have hy0 : 0 ≤ a.1 := by
                      obtain ⟨c1, c2, c3, bb, c4, c5⟩ := scan_some s (l.drop q) ((rows s l).drop (q + 1)) m a.1 a.2 hS
                      have d1 := (cost_bd HSh.out (HOk.out.drop q) a.2 (by omega)).1
                      have c4' : best s (l.drop (q + (a.2 - 1 + 1))) = some (bb.1, bb.2) := by rw [← rows_get s l q (a.2 - 1) (by rw [HN.out]; omega)]; exact c4
                      have d2 := (best_bd HSh.out HOk.out (by rw [HN.out]; exact hlen) _ _ rfl (by rw [HN.out]; omega) bb.1 bb.2 c4').1
                      omega
                    by_cases hle : costOf s (l.drop q) (m + 1) + b'.1 ≤ a.1
                    · have hsc := scan_take s (l.drop q) ((rows s l).drop (q + 1)) m b' a hp hrg hS hle
                      have HS : Hid (∀ z, z = costOf s (l.drop q) (m + 1) + b'.1 → DPin s l q (m + 1) (B2.set q z) (N2.set q (k : Int))) := by
                        intro z hz; subst hz
                        have := dp_take HDP.out (by rw [HN.out]; exact hq) hsc
                        rwa [← ek] at this
                      clear hsc hC hbk hrg hR hbq hp hL1 hL2 ek hS HCE
                      generalize costOf s (l.drop q) (m + 1) = cst at *
                      go_wp2_with fail
                      refine HC.out.mono ?_; rintro e w3 ⟨rfl, hb3⟩
                      obtain ⟨a1, a2, a3, a4, a5, a6, a7, a8, a9, a10⟩ := HLT.out w3 hb3
                      rw [HBK.out] at a6
                      rw [hy.out] at a7
                      have A1 := Lib.hid a1
                      have A2 := Lib.hid a2
                      have A3 := Lib.hid a3
                      generalize N2.getD q 0 = nq at a9
                      generalize b'.1 = bz at *
                      generalize a.1 = az at *
                      clear a1 a2 a3 x0 x1 x2 x3 x4 x5 hb3
                      go_wp2
                      go_roundw
                      case rel => exact rel'.out _ _ _ (HS.out _ rfl) ((A1.out.put (by rw [HL1.out]; omega) _).far hne _) ((A2.out.far (fun e => hne e.symm) _).put (by rw [HL2.out]; omega) _) ((A3.out.setCell h1 _).setCell h2 _)
                      case measure => simp [intOf]; omega
                    · have hsc := scan_keep s (l.drop q) ((rows s l).drop (q + 1)) m b' a hp hrg hS hle
                      have HS := Lib.hid hsc
                      clear hsc hC hbk hrg hR hbq hp hL1 hL2 ek hS HCE
                      generalize costOf s (l.drop q) (m + 1) = cst at *
                      go_wp2_with fail
                      refine HC.out.mono ?_; rintro e w3 ⟨rfl, hb3⟩
                      obtain ⟨a1, a2, a3, a4, a5, a6, a7, a8, a9, a10⟩ := HLT.out w3 hb3
                      rw [HBK.out] at a6
                      rw [hy.out] at a7
                      have A1 := Lib.hid a1
                      have A2 := Lib.hid a2
                      have A3 := Lib.hid a3
                      generalize b'.1 = bz at *
                      generalize a.1 = az at *
                      clear a1 a2 a3 x0 x1 x2 x3 x4 x5 hb3
                      go_wp2
                      go_roundw
                      case rel => exact rel'.out _ _ _ (dp_skip HDP.out HS.out) A1.out A2.out A3.out
                      case measure => simp [intOf]; omega
              · have hpf : permitted s (l.drop q) (m + 1) = false := by simpa using hp
                rw [if_neg hp, hpf] at hC
                have hsc := scan_no s (l.drop q) ((rows s l).drop (q + 1)) m hpf
                have HS := Lib.hid hsc
                have HC := Lib.hid hC
                clear hsc hC hbk hrg hbq hp hpf hL1 hL2 ek
                go_wp2_with fail
                refine HC.out.mono ?_; rintro e w3 ⟨rfl, hb3⟩
                obtain ⟨a1, a2, a3, a4, a5, a6, a7, a8, a9, a10⟩ := HLT.out w3 hb3
                have A1 := Lib.hid a1
                have A2 := Lib.hid a2
                have A3 := Lib.hid a3
                clear a1 a2 a3 a6 a7 a9 x0 x1 x2 x3 x4 x5 hb3
                go_wp2
                go_roundw
                case rel => exact rel'.out _ _ _ (dp_skip HDP.out HS.out) A1.out A2.out A3.out
                case measure => simp [intOf]; omega
            · obtain rfl : m = n - q := by omega
              obtain rfl : k = n + 1 := by omega
              have hds := dp_shut (i := q) (by rw [HN.out]; exact HDP.out) (by rw [HN.out]; exact hq)
              have HDS := Lib.hid hds
              clear hds hk
              go_wp2
              go_roundw
              case rel => exact ⟨q, B2, N2, by omega, by go_num, HDS.out, HI1.out, HI2.out, HBI.out⟩
              case measure => simp [intOf]
  · have hz0 : z ≠ 0 := fun e => hg (hz.1 e)
    have HG := Lib.hid hg
    clear hz hg
    go_wp2
    go_ret3
    exact ⟨((Below.refl w.heap.size w).alloc (Nat.le_refl _) _).trans (hb1.mono (by simp)), .inl ⟨z, hz0, rfl, fun g => absurd g HG.out⟩⟩
end Go.Proofs.Ytajmdgkchleipaa
