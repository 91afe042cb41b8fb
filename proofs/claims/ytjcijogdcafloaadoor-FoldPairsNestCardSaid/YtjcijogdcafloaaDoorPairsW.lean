/- The walk of Pairs: the connections at the spine. -/
import Derived.Deep.CutBlock
import Derived.Deep.DeepCutAuto
import Derived.Test.YtjcijogdcafloaaDoorPages
import Derived.Test.YtjcijogdcafloaaDoorFoldPairs
namespace Go.Proofs.YtjcijogdcafloaaDoor
open Go.RowKit
theorem eInt' : ElemT Tryd.prog 33 3 (.int .i64 0) 8 := ElemT.mk_ Tryd.underlying33 (by kernel_rfl) rfl
set_option maxHeartbeats 1000000 in
theorem at_any (y : Leaf) (a b : Int) (Bc Br : Nat) (w : World) (hc : w.cell? ⟨Bc, 0, none⟩ = some (.int .i64 a)) (hr : w.cell? ⟨Br, 0, none⟩ = some (.int .i64 b)) (lc : Bc < w.heap.size) (lr : Br < w.heap.size) :
    Calls Tryd.prog 30 #[lval y, .pointer (some ⟨Bc, 0, none⟩), .pointer (some ⟨Br, 0, none⟩)] w fun e w' => e = .returned (.bool (isAt a b y)) ∧ Below w.heap.size w w' := by
  obtain ⟨yc, yr, yf, yg⟩ := y
  unfold lval isAt
  dsimp only
  cases h1 : ((yc : Int) == a)
  · go_enter Tryd.func30, Tryd.ntmps30
    go_wp2
    go_ret
    exact ⟨rfl, (Below.refl _ _).alloc (Nat.le_refl _) _⟩
  · go_enter Tryd.func30, Tryd.ntmps30
    go_wp2
    go_ret
    exact ⟨by simp, (Below.refl _ _).alloc (Nat.le_refl _) _⟩
set_option maxRecDepth 100000 in
set_option maxHeartbeats 4000000 in
theorem index_any (l : List Leaf) (v : Value) (ok : Nat → Prop) (a b : Int) (Bc Br : Nat) (w : World) (hl : Lv w ok v l) (hn : l.length ≤ 100000) (hc : w.cell? ⟨Bc, 0, none⟩ = some (.int .i64 a)) (hr : w.cell? ⟨Br, 0, none⟩ = some (.int .i64 b)) (lc : Bc < w.heap.size) (lr : Br < w.heap.size) :
    Calls Tryd.prog 29 #[v, .func (.func 30) #[] #[.pointer (some ⟨Bc, 0, none⟩), .pointer (some ⟨Br, 0, none⟩)]] w fun e w' => e = .returned (.int .i64 (idxOf (isAt a b) l)) ∧ Below w.heap.size w w' := by
  have HL := Lib.hid hl
  have HC := Lib.hid hc
  have HR := Lib.hid hr
  obtain ⟨A, c, ev⟩ := SlM.form hl
  subst ev
  have HI1 : Hid (∀ i, i < l.length → isAt a b (lf l i) = true → (∀ j, j < i → isAt a b (lf l j) = false) → idxOf (isAt a b) l = i) := fun i hi h1 h2 => by
    refine idxOf_at hi (by rw [← lf_eq l hi]; exact h1) fun j hj => ?_
    rw [← lf_eq l (by omega)]; exact h2 j hj
  have HI2 : Hid ((∀ j, j < l.length → isAt a b (lf l j) = false) → idxOf (isAt a b) l = -1) := fun h => idxOf_none fun i hi => by rw [← lf_eq l hi]; exact h i hi
  generalize idxOf (isAt a b) l = res at *
  clear hl hc hr
  generalize hnn : l.length = n at *
  have HN := Lib.hid hnn
  clear hnn
  go_enter Tryd.func29, Tryd.ntmps29
  go_wp2
  go_loopw [8] (fun vi wr => ∃ i : Nat, i ≤ n ∧ vi = .int .i64 i ∧ Hid (∀ j, j < i → isAt a b (lf l j) = false) ∧ Below w.heap.size w wr) (fun i _ => n - (intOf i).toNat)
  case atStart => exact ⟨0, by omega, rfl, fun j hj => absurd hj (Nat.not_lt_zero j), Below.refl _ _⟩
  case round =>
    obtain ⟨i, hi, rfl, hno, hb⟩ := hrel
    by_cases hlt : i < n
    · obtain ⟨bq, oq, capq, hv, hbk, hbl, hcap, _, hc4⟩ := Lv.cells4 HL.out (by rw [HN.out]; omega)
      injection hv with e1 e2 e3
      clear e2
      subst e1 e3
      obtain ⟨q0, q1, q2, q3⟩ := hc4 i (by rw [HN.out]; exact hlt)
      have a0 := (hb.cell (p := ⟨bq, oq + i * 4, none⟩) hbl).trans q0
      have a1 := (hb.cell (p := ⟨bq, oq + i * 4 + 1, none⟩) hbl).trans q1
      have a2 := (hb.cell (p := ⟨bq, oq + i * 4 + 2, none⟩) hbl).trans q2
      have a3 := (hb.cell (p := ⟨bq, oq + i * 4 + 3, none⟩) hbl).trans q3
      have k1 := (hb.cell (p := ⟨Bc, 0, none⟩) lc).trans HC.out
      have k2 := (hb.cell (p := ⟨Br, 0, none⟩) lr).trans HR.out
      have hsz := hb.size
      have HAt := Lib.hid (at_any (lf l i) a b Bc Br wr k1 k2 (by omega) (by omega))
      have H1 := Lib.hid (HI1.out i hlt)
      have HB := Lib.hid hb
      clear q0 q1 q2 q3 k1 k2 hb hc4
      generalize hx : lf l i = x at *
      have HX := Lib.hid hx
      unfold lval at HAt
      clear hx
      cases hq : isAt a b x
      · rw [hq] at HAt
        have HQ := Lib.hid hq
        clear hq
        go_wp2_with fail
        refine HAt.out.mono ?_; rintro e w1 ⟨rfl, hb1⟩
        have HB1 := Lib.hid (HB.out.trans (hb1.mono HB.out.size))
        clear hb1
        go_wp2
        go_roundw
        case rel =>
          refine ⟨i + 1, by omega, by go_num, fun j hj => ?_, HB1.out⟩
          by_cases e : j = i
          · subst e; rw [HX.out]; exact HQ.out
          · exact hno.out j (by omega)
        case measure => simp [intOf]; omega
      · rw [hq] at HAt
        have hres := H1.out (by first | exact hq | rfl) hno.out
        have HRes := Lib.hid hres
        clear hq hres
        go_wp2_with fail
        refine HAt.out.mono ?_; rintro e w1 ⟨rfl, hb1⟩
        have HB1 := Lib.hid (HB.out.trans (hb1.mono HB.out.size))
        clear hb1
        go_wp2
        go_ret
        refine ⟨?_, HB1.out⟩
        rw [HRes.out]
        rfl
    · obtain rfl : i = n := by omega
      have HRes := Lib.hid (HI2.out hno.out)
      have HB := Lib.hid hb
      clear hb
      go_wp2
      go_ret
      refine ⟨?_, HB.out⟩
      rw [HRes.out]
      rfl
def PairsPost (P : List Int) (w : World) (e : Ending) (w' : World) : Prop :=
  ∃ v, e = .returned (.tuple #[v, .int .i64 0]) ∧ w'.ownsRow w.heap.size 3 1 v P.length (ints P) ∧ Below w.heap.size w w'
def PairsErr (z : Int) (w : World) (e : Ending) (w' : World) : Prop := e = .returned (.tuple #[.slice none 0 0, .int .i64 z]) ∧ Below w.heap.size w w'
set_option maxRecDepth 100000 in
set_option maxHeartbeats 4000000 in
theorem pairs_bad (C R : Int) (v : Value) (l : List Step) (w : World) (hI : Sv w v l) (hz : foldedZ C R l ≠ 0) :
    Calls Tryd.prog 18 #[.agg #[.int .i64 C, .int .i64 R, v]] w (PairsErr (foldedZ C R l) w) := by
  have HI := Lib.hid hI
  obtain ⟨Av, cv, ev⟩ := SlM.form HI.out
  have hFo : Hid (∀ w', Below w.heap.size w w' → Calls Tryd.prog 23 #[.agg #[.int .i64 C, .int .i64 R, v]] w' (FoldedErr (foldedZ C R l) w')) := fun w' hb => folded_bad C R v l w' (SlM.later HI.out hb) hz
  have HE : Hid (∀ e w', PairsErr (foldedZ C R l) w e w' = (e = .returned (.tuple #[.slice none 0 0, .int .i64 (foldedZ C R l)]) ∧ Below w.heap.size w w')) := fun _ _ => rfl
  generalize PairsErr (foldedZ C R l) w = Post at *
  have hb0 := Lib.hid ((Below.refl w.heap.size w).alloc (Nat.le_refl _) (Obj.cells #[.int .i64 C, .int .i64 R, v] 24))
  have hz1 : (foldedZ C R l != 0) = true := by simpa using hz
  generalize foldedZ C R l = z at *
  clear hI hz
  subst ev
  go_enter Tryd.func18, Tryd.ntmps18
  go_wp2_with fail
  refine (hFo.out _ hb0.out).mono ?_; rintro e w1 ⟨rfl, hb1⟩
  have HBe := Lib.hid (hb0.out.trans (hb1.mono hb0.out.size))
  clear hb1
  go_wp2
  rw [HE.out]
  exact ⟨rfl, HBe.out⟩
set_option maxRecDepth 100000 in
set_option maxHeartbeats 8000000 in
theorem pairs_ok (C R : Nat) (v : Value) (l : List Step) (w : World) (hI : Sv w v l) (hg : Good C R l) (hw : whole C R l) :
    Calls Tryd.prog 18 #[.agg #[.int .i64 (C : Int), .int .i64 (R : Int), v]] w (PairsPost (pairsL (l.length == 0) (lastSide l) (endPile C R l)) w) := by
  have HI := Lib.hid hI
  obtain ⟨Av, cv, ev⟩ := SlM.form HI.out
  have hFo : Hid (∀ w', Below w.heap.size w w' → Calls Tryd.prog 23 #[.agg #[.int .i64 (C : Int), .int .i64 (R : Int), v]] w' (FoldedPost (endPile C R l) (lastSide l) w')) := fun w' hb => folded_ok C R v l w' (SlM.later HI.out hb) hg hw
  have hlen32 : (endPile C R l).length ≤ 32 := by rw [end_length hg.ok hw.1 hw.2]; exact hg.cr
  have hin : Hid (∀ x ∈ endPile C R l, x.c < C ∧ x.r < R) := fun x hx => end_in hw.1 hw.2 hx
  obtain ⟨s0, s1⟩ := lastSide_range hg.ok
  have hC8 := hg.c8
  have hR8 := hg.r8
  have hn8 := hg.n8
  have HP : Hid (∀ e w', PairsPost (pairsL (l.length == 0) (lastSide l) (endPile C R l)) w e w' = ∃ v, e = .returned (.tuple #[v, .int .i64 0]) ∧ w'.ownsRow w.heap.size 3 1 v (pairsL (l.length == 0) (lastSide l) (endPile C R l)).length (ints (pairsL (l.length == 0) (lastSide l) (endPile C R l))) ∧ Below w.heap.size w w') := fun _ _ => rfl
  have HPl : Hid ((pairsL (l.length == 0) (lastSide l) (endPile C R l)).length = (endPile C R l).length) := by unfold Hid pairsL; rw [List.length_map]
  have HPs : Hid (∀ j, j < (endPile C R l).length → (pairsL (l.length == 0) (lastSide l) (endPile C R l)).take (j + 1) = (pairsL (l.length == 0) (lastSide l) (endPile C R l)).take j ++ [pairIx (l.length == 0) (lastSide l) (endPile C R l) (lf (endPile C R l) j)]) := fun j hj => by
    rw [List.take_succ_eq_append_getElem (by unfold pairsL; simpa using hj), lf_eq _ hj]; simp [pairsL]
  have HPx : Hid (∀ x, (l.length = 0 → pairIx (l.length == 0) (lastSide l) (endPile C R l) x = idxOf (isAt (-1) x.r) (endPile C R l)) ∧ (l.length ≠ 0 → pairIx (l.length == 0) (lastSide l) (endPile C R l) x = idxOf (isAt (tgtC (lastSide l) x) (tgtR (lastSide l) x)) (endPile C R l))) := fun x => by
    unfold pairIx
    refine ⟨fun h => by simp [h], fun h => ?_⟩
    have : (l.length == 0) = false := by simpa using h
    rw [this]; rfl
  generalize PairsPost (pairsL (l.length == 0) (lastSide l) (endPile C R l)) w = Post at *
  generalize pairsL (l.length == 0) (lastSide l) (endPile C R l) = P at *
  generalize endPile C R l = pile at *
  generalize hsd' : lastSide l = sd at *
  have hsd : sd = 0 ∨ sd = 1 ∨ sd = 2 ∨ sd = 3 := by omega
  have HSd := Lib.hid hsd
  clear s0 s1 hg hw hI hsd hsd'
  have hb0 := Lib.hid ((Below.refl w.heap.size w).alloc (Nat.le_refl _) (Obj.cells #[.int .i64 (C : Int), .int .i64 (R : Int), v] 24))
  have hbl0 := Lib.hid (Blk.new w 24 #[.int .i64 (C : Int), .int .i64 (R : Int), v])
  subst ev
  generalize hns : l.length = ns at *
  clear hns
  go_enter Tryd.func18, Tryd.ntmps18
  go_wp2_with fail
  refine (hFo.out _ hb0.out).mono ?_; rintro e w1 ⟨vL, rfl, hlv, hb1⟩
  have HX0 := Lib.hid (hbl0.out.below hb1 hbl0.out.lt)
  have HBe := Lib.hid (hb0.out.trans (hb1.mono hb0.out.size))
  have hz := HX0.out.lt
  obtain ⟨AL, cL, eL⟩ := SlM.form hlv
  subst eL
  have HLv := Lib.hid hlv
  clear hlv hb1
  generalize hnl : pile.length = nl at *
  have HNl := Lib.hid hnl
  clear hnl
  go_wp2
  go_loopw [23, 7] (fun vj vo wr => ∃ j : Nat, j ≤ nl ∧ vj = .int .i64 j ∧ wr.ownsRow w1.heap.size 3 1 vo j (ints (P.take j)) ∧ Below w1.heap.size w1 wr) (fun j _ _ => nl - (intOf j).toNat)
  case atStart => exact ⟨0, by omega, rfl, ⟨rfl, .inl ⟨rfl, rfl⟩⟩, Below.refl _ _⟩
  case round =>
    obtain ⟨j, hj, rfl, hown, hb⟩ := hrel
    by_cases hlt : j < nl
    · obtain ⟨bL, oL, cL', eL, _, hbL, _, _, hcL⟩ := (HLv.out).cells4 (by rw [HNl.out]; omega)
      obtain ⟨g0, g1, g2, g3⟩ := hcL j (by rw [HNl.out]; exact hlt)
      rw [HNl.out] at eL
      injection eL with eA _ eC
      subst eA; subst eC
      have d0 := (hb.cell (p := ⟨bL, oL + j * 4, none⟩) hbL).trans g0
      have d1 := (hb.cell (p := ⟨bL, oL + j * 4 + 1, none⟩) hbL).trans g1
      have d2 := (hb.cell (p := ⟨bL, oL + j * 4 + 2, none⟩) hbL).trans g2
      have d3 := (hb.cell (p := ⟨bL, oL + j * 4 + 3, none⟩) hbL).trans g3
      have x2 : wr.cell? ⟨w.heap.size, 2, none⟩ = some (.slice Av ns cv) := (HX0.out.below hb HX0.out.lt).cell 2
      have hzr : w1.heap.size ≤ wr.heap.size := hb.size
      have hzw : w.heap.size < wr.heap.size := by omega
      obtain ⟨hxc, hxr⟩ := hin.out (lf pile j) (by rw [lf_eq pile (by rw [HNl.out]; exact hlt)]; exact List.getElem_mem _)
      have HSj := Lib.hid (HPs.out j hlt)
      obtain ⟨hx0, hx1⟩ := HPx.out (lf pile j)
      have HX1 : Hid (∀ c' r' : Int, (ns = 0 ∧ c' = -1 ∧ r' = (lf pile j).r ∨ ns ≠ 0 ∧ c' = tgtC sd (lf pile j) ∧ r' = tgtR sd (lf pile j)) → pairIx (ns == 0) sd pile (lf pile j) = idxOf (isAt c' r') pile) := by
        rintro c' r' (⟨h0, rfl, rfl⟩ | ⟨h0, rfl, rfl⟩)
        · exact hx0 h0
        · exact hx1 h0
      have HT : Hid (∀ x, tgtC sd x = (if sd = 0 then (if x.fx then (x.c : Int) + 1 else (x.c : Int) - 1) else if sd = 1 then (if x.fx then (x.c : Int) - 1 else (x.c : Int) + 1) else x.c) ∧ tgtR sd x = (if sd = 0 ∨ sd = 1 then (x.r : Int) else if sd = 2 then (if x.fy then (x.r : Int) + 1 else (x.r : Int) - 1) else (if x.fy then (x.r : Int) - 1 else (x.r : Int) + 1))) := fun x => ⟨rfl, rfl⟩
      obtain ⟨Ao, co, eo⟩ := own_form hown
      subst eo
      have HOw := Lib.hid hown
      have HB := Lib.hid hb
      have HLr := Lib.hid (SlM.later HLv.out hb)
      clear g0 g1 g2 g3 hcL hown hb hx0 hx1
      generalize pairIx (ns == 0) sd pile (lf pile j) = px at *
      generalize lf pile j = x at *
      obtain ⟨xc, xr, xfx, xfy⟩ := x
      dsimp only at d0 d1 d2 d3 hxc hxr
      have key : Hid (∀ (w2 w3 : World) (c' r' : Int) (ob : Obj) (v3 : Value), Below wr.heap.size wr w2 → (ns = 0 ∧ c' = -1 ∧ r' = (xr : Int) ∨ ns ≠ 0 ∧ c' = tgtC sd ⟨xc, xr, xfx, xfy⟩ ∧ r' = tgtR sd ⟨xc, xr, xfx, xfy⟩) → w3.ownsRow w1.heap.size 3 1 v3 (j + 1) (ints (P.take j) ++ [.int .i64 (idxOf (isAt c' r') pile)]) → (w2.alloc ob).grownBy w3 (Value.slice Ao j co).ownBlock →
          w3.ownsRow w1.heap.size 3 1 v3 (j + 1) (ints (P.take (j + 1))) ∧ Below w1.heap.size w1 w3) := fun w2 w3 c' r' ob v3 hb2 hc ho hg => by
        refine ⟨?_, ?_⟩
        · rw [HSj.out, ints_append, HX1.out c' r' hc]; exact ho
        · have h1 := HB.out.trans (hb2.mono HB.out.size)
          exact (h1.alloc h1.size ob).grown hg (by have := h1.size; simp; omega) fun k hk => by have := (own_lt HOw.out k hk).1; omega
      have HOw2 : Hid (∀ w2, Below wr.heap.size wr w2 → w2.ownsRow w1.heap.size 3 1 (.slice Ao j co) j (ints (P.take j))) := fun w2 h => own_below HOw.out h
      have HLr2 : Hid (∀ w2, Below wr.heap.size wr w2 → Lv w2 (fun b => (w.alloc (Obj.cells #[.int .i64 (C : Int), .int .i64 (R : Int), .slice Av ns cv] 24)).heap.size ≤ b) (.slice (some ⟨bL, oL, none⟩) nl cL) pile) := fun w2 h => SlM.later HLr.out h
      have hpn : pile.length ≤ 100000 := by rw [HNl.out]; omega
      have HPn := Lib.hid hpn
      clear hpn
      go_wp2
      go_region
      ·
        have bA := (((Blk.new wr 42 #[.int .i64 (xc : Int), .int .i64 (xr : Int), .bool xfx, .bool xfy]).alloc (Obj.cells #[.int .i64 (xc : Int)] 3)).alloc (Obj.cells #[.int .i64 (xr : Int)] 3)).drew
        have bC := ((Blk.new (wr.alloc (Obj.cells #[.int .i64 (xc : Int), .int .i64 (xr : Int), .bool xfx, .bool xfy] 42)) 3 #[.int .i64 (xc : Int)]).alloc (Obj.cells #[.int .i64 (xr : Int)] 3)).drew
        have bR := (Blk.new ((wr.alloc (Obj.cells #[.int .i64 (xc : Int), .int .i64 (xr : Int), .bool xfx, .bool xfy] 42)).alloc (Obj.cells #[.int .i64 (xc : Int)] 3)) 3 #[.int .i64 (xr : Int)]).drew
        have hbx := ((((Below.refl wr.heap.size wr).alloc (Nat.le_refl _) (Obj.cells #[.int .i64 (xc : Int), .int .i64 (xr : Int), .bool xfx, .bool xfy] 42)).alloc (by simp) (Obj.cells #[.int .i64 (xc : Int)] 3)).alloc (by simp; omega) (Obj.cells #[.int .i64 (xr : Int)] 3)).drew
        simp only [World.size_alloc] at bC bR
        generalize (((wr.alloc (Obj.cells #[.int .i64 (xc : Int), .int .i64 (xr : Int), .bool xfx, .bool xfy] 42)).alloc (Obj.cells #[.int .i64 (xc : Int)] 3)).alloc (Obj.cells #[.int .i64 (xr : Int)] 3)).drew = wx at *
        have hcs : (ns = 0) ∨ (ns ≠ 0 ∧ sd = 0 ∧ xfx = true) ∨ (ns ≠ 0 ∧ sd = 0 ∧ xfx = false) ∨ (ns ≠ 0 ∧ sd = 1 ∧ xfx = true) ∨ (ns ≠ 0 ∧ sd = 1 ∧ xfx = false) ∨ (ns ≠ 0 ∧ sd = 2 ∧ xfy = true) ∨ (ns ≠ 0 ∧ sd = 2 ∧ xfy = false) ∨ (ns ≠ 0 ∧ sd = 3 ∧ xfy = true) ∨ (ns ≠ 0 ∧ sd = 3 ∧ xfy = false) := by
          have h1 := HSd.out
          have h2 : xfx = true ∨ xfx = false := by cases xfx <;> simp
          have h3 : xfy = true ∨ xfy = false := by cases xfy <;> simp
          by_cases h0 : ns = 0
          · exact .inl h0
          · rcases h1 with h1 | h1 | h1 | h1 <;> rcases h2 with h2 | h2 <;> rcases h3 with h3 | h3 <;> simp [h0, h1, h2, h3]
        have HTx := HT.out ⟨xc, xr, xfx, xfy⟩
        have HTy := Lib.hid HTx
        clear HTx
        dsimp only at HTy
        have y2 : wx.cell? ⟨w.heap.size, 2, none⟩ = some (.slice Av ns cv) := (hbx.cell (p := ⟨w.heap.size, 2, none⟩) hzw).trans x2
        have e2 : wx.cell? ⟨wr.heap.size, 2, none⟩ = some (.bool xfx) := bA.cell 2
        have e3 : wx.cell? ⟨wr.heap.size, 3, none⟩ = some (.bool xfy) := bA.cell 3
        have ec := bC.cell 0
        have er := bR.cell 0
        simp only [List.getElem?_toArray, List.getElem?_cons_zero] at ec er
        have fc := bC.frozen 0
        have fr := bR.frozen 0
        have lc := bC.lt
        have lr := bR.lt
        have hHb := Lib.hid hbx
        clear d0 d1 d2 d3 x2 bA bC bR hbx
        generalize hBc : wr.heap.size + 1 = B1 at *
        generalize hBr : B1 + 1 = B2 at *
        have hne : B1 ≠ B2 := by omega
        have hB1 : wr.heap.size ≤ B1 := by omega
        have hB2 : wr.heap.size ≤ B2 := by omega
        clear hBc hBr
        rcases hcs with rfl | ⟨hns, rfl, rfl⟩ | ⟨hns, rfl, rfl⟩ | ⟨hns, rfl, rfl⟩ | ⟨hns, rfl, rfl⟩ | ⟨hns, rfl, rfl⟩ | ⟨hns, rfl, rfl⟩ | ⟨hns, rfl, rfl⟩ | ⟨hns, rfl, rfl⟩
        all_goals
          go_wp2_with (first
            | (go_at_call 29; go_must (refine (index_any pile _ _ _ _ B1 B2 _ (HLr2.out _ (by first | exact hHb.out | exact hHb.out.setCell (by assumption) _)) HPn.out (by go_simp; rfl) (by go_simp; rfl) (by simpa using lc) (by simpa using lr)).mono ?_; rintro e w2 ⟨rfl, hb2⟩; have HB2 : Hid (Below wr.heap.size wr w2) := Lib.hid (Below.trans (by first | exact hHb.out | exact hHb.out.setCell (by assumption) _) (hb2.mono (by have := hHb.out.size; simpa using this))); clear hb2))
            | (at_builtin; go_must (refine wpList_push eInt' rfl (.tmp 77) (.tmp 81) rfl w1.heap.size (.slice Ao j co) j _ rfl ((HOw2.out _ HB2.out).alloc _) ⟨w2.heap.size, 0, none⟩ 1 _ rfl (by go_simp; rfl) rfl (by omega) (by omega) (by have := HB2.out.size; simp; omega) ?_; intro v3 w3 hown3 hg3 _; obtain ⟨k1, k2⟩ := key.out _ _ _ _ _ _ HB2.out (by first | exact .inl ⟨trivial, rfl, rfl⟩ | exact .inl ⟨rfl, rfl, rfl⟩ | exact .inr ⟨hns, by rw [HTy.out.1]; simp, by rw [HTy.out.2]; simp⟩) hown3 hg3; have HK1 := Lib.hid k1; have HK2 := Lib.hid k2; clear k1 k2 hown3 hg3)))
          go_roundw
          case rel => exact ⟨j + 1, by omega, by go_num, HK1.out, HK2.out⟩
          case measure => simp [intOf]; omega
      ·
        have bA := (((Blk.new wr 42 #[.int .i64 (xc : Int), .int .i64 (xr : Int), .bool xfx, .bool xfy]).alloc (Obj.cells #[.int .i64 (xr : Int)] 3)).alloc (Obj.cells #[.int .i64 (xc : Int)] 3)).drew
        have bR := ((Blk.new (wr.alloc (Obj.cells #[.int .i64 (xc : Int), .int .i64 (xr : Int), .bool xfx, .bool xfy] 42)) 3 #[.int .i64 (xr : Int)]).alloc (Obj.cells #[.int .i64 (xc : Int)] 3)).drew
        have bC := (Blk.new ((wr.alloc (Obj.cells #[.int .i64 (xc : Int), .int .i64 (xr : Int), .bool xfx, .bool xfy] 42)).alloc (Obj.cells #[.int .i64 (xr : Int)] 3)) 3 #[.int .i64 (xc : Int)]).drew
        have hbx := ((((Below.refl wr.heap.size wr).alloc (Nat.le_refl _) (Obj.cells #[.int .i64 (xc : Int), .int .i64 (xr : Int), .bool xfx, .bool xfy] 42)).alloc (by simp) (Obj.cells #[.int .i64 (xr : Int)] 3)).alloc (by simp; omega) (Obj.cells #[.int .i64 (xc : Int)] 3)).drew
        simp only [World.size_alloc] at bC bR
        generalize (((wr.alloc (Obj.cells #[.int .i64 (xc : Int), .int .i64 (xr : Int), .bool xfx, .bool xfy] 42)).alloc (Obj.cells #[.int .i64 (xr : Int)] 3)).alloc (Obj.cells #[.int .i64 (xc : Int)] 3)).drew = wx at *
        have hcs : (ns = 0) ∨ (ns ≠ 0 ∧ sd = 0 ∧ xfx = true) ∨ (ns ≠ 0 ∧ sd = 0 ∧ xfx = false) ∨ (ns ≠ 0 ∧ sd = 1 ∧ xfx = true) ∨ (ns ≠ 0 ∧ sd = 1 ∧ xfx = false) ∨ (ns ≠ 0 ∧ sd = 2 ∧ xfy = true) ∨ (ns ≠ 0 ∧ sd = 2 ∧ xfy = false) ∨ (ns ≠ 0 ∧ sd = 3 ∧ xfy = true) ∨ (ns ≠ 0 ∧ sd = 3 ∧ xfy = false) := by
          have h1 := HSd.out
          have h2 : xfx = true ∨ xfx = false := by cases xfx <;> simp
          have h3 : xfy = true ∨ xfy = false := by cases xfy <;> simp
          by_cases h0 : ns = 0
          · exact .inl h0
          · rcases h1 with h1 | h1 | h1 | h1 <;> rcases h2 with h2 | h2 <;> rcases h3 with h3 | h3 <;> simp [h0, h1, h2, h3]
        have HTx := HT.out ⟨xc, xr, xfx, xfy⟩
        have HTy := Lib.hid HTx
        clear HTx
        dsimp only at HTy
        have y2 : wx.cell? ⟨w.heap.size, 2, none⟩ = some (.slice Av ns cv) := (hbx.cell (p := ⟨w.heap.size, 2, none⟩) hzw).trans x2
        have e2 : wx.cell? ⟨wr.heap.size, 2, none⟩ = some (.bool xfx) := bA.cell 2
        have e3 : wx.cell? ⟨wr.heap.size, 3, none⟩ = some (.bool xfy) := bA.cell 3
        have ec := bC.cell 0
        have er := bR.cell 0
        simp only [List.getElem?_toArray, List.getElem?_cons_zero] at ec er
        have fc := bC.frozen 0
        have fr := bR.frozen 0
        have lc := bC.lt
        have lr := bR.lt
        have hHb := Lib.hid hbx
        clear d0 d1 d2 d3 x2 bA bC bR hbx
        generalize hBc : wr.heap.size + 1 = B1 at *
        generalize hBr : B1 + 1 = B2 at *
        have hne : B1 ≠ B2 := by omega
        have hB1 : wr.heap.size ≤ B1 := by omega
        have hB2 : wr.heap.size ≤ B2 := by omega
        clear hBc hBr
        rcases hcs with rfl | ⟨hns, rfl, rfl⟩ | ⟨hns, rfl, rfl⟩ | ⟨hns, rfl, rfl⟩ | ⟨hns, rfl, rfl⟩ | ⟨hns, rfl, rfl⟩ | ⟨hns, rfl, rfl⟩ | ⟨hns, rfl, rfl⟩ | ⟨hns, rfl, rfl⟩
        all_goals
          go_wp2_with (first
            | (go_at_call 29; go_must (refine (index_any pile _ _ _ _ B2 B1 _ (HLr2.out _ (by first | exact hHb.out | exact hHb.out.setCell (by assumption) _)) HPn.out (by go_simp; rfl) (by go_simp; rfl) (by simpa using lc) (by simpa using lr)).mono ?_; rintro e w2 ⟨rfl, hb2⟩; have HB2 : Hid (Below wr.heap.size wr w2) := Lib.hid (Below.trans (by first | exact hHb.out | exact hHb.out.setCell (by assumption) _) (hb2.mono (by have := hHb.out.size; simpa using this))); clear hb2))
            | (at_builtin; go_must (refine wpList_push eInt' rfl (.tmp 77) (.tmp 81) rfl w1.heap.size (.slice Ao j co) j _ rfl ((HOw2.out _ HB2.out).alloc _) ⟨w2.heap.size, 0, none⟩ 1 _ rfl (by go_simp; rfl) rfl (by omega) (by omega) (by have := HB2.out.size; simp; omega) ?_; intro v3 w3 hown3 hg3 _; obtain ⟨k1, k2⟩ := key.out _ _ _ _ _ _ HB2.out (by first | exact .inl ⟨trivial, rfl, rfl⟩ | exact .inl ⟨rfl, rfl, rfl⟩ | exact .inr ⟨hns, by rw [HTy.out.1]; simp, by rw [HTy.out.2]; simp⟩) hown3 hg3; have HK1 := Lib.hid k1; have HK2 := Lib.hid k2; clear k1 k2 hown3 hg3)))
          go_roundw
          case rel => exact ⟨j + 1, by omega, by go_num, HK1.out, HK2.out⟩
          case measure => simp [intOf]; omega
    · obtain rfl : j = nl := by omega
      rw [List.take_of_length_le (by rw [HPl.out]; exact Nat.le_refl _)] at hown
      have HOw := Lib.hid hown
      have HB := Lib.hid hb
      obtain ⟨Ao, co, eo⟩ := own_form hown
      subst eo
      clear hown hb
      go_wp2
      rw [HP.out]
      exact ⟨_, rfl, by rw [HPl.out]; exact own_base HOw.out (by have := HBe.out.size; omega), HBe.out.trans (HB.out.mono HBe.out.size)⟩
end Go.Proofs.YtjcijogdcafloaaDoor
