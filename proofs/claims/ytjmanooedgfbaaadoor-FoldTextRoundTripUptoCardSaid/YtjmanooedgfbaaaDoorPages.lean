/- The walk of Pages: the places of all pages. -/
import Derived.Test.YtjmanooedgfbaaaDoorFolded
namespace Go.Proofs.YtjmanooedgfbaaaDoor
open Go.RowKit
def pcell (p : Pg) : List Value := [.bool p.back, .int .i64 (p.col : Int), .int .i64 (p.row : Int), .int .i64 (p.turn : Int)]
def pcells (l : List Pg) : List Value := l.flatMap pcell
theorem pcells_append (a b : List Pg) : pcells (a ++ b) = pcells a ++ pcells b := by simp [pcells]
theorem pcells_one (x : Pg) : pcells [x] = pcell x := by simp [pcells]
theorem ePg : ElemK Tryd.prog 35 40 (.agg #[.bool false, .int .i64 0, .int .i64 0, .int .i64 0]) 4 32 := ElemK.mk_ Tryd.underlying35 (by kernel_rfl) rfl
theorem own_ne {w : World} {g base n size : Nat} {t e : TypeId} {cs : Array Value} {v : Value} {xs : List Value} (h : Blk w g t cs) (hte : t ≠ e) (hr : w.ownsRow base e size v n xs) : v.ownBlock ≠ some g := by
  rcases hr.2 with ⟨rfl, _⟩ | ⟨g', cap, cur, rfl, _, hh, _⟩
  · simp [Value.ownBlock]
  · intro e'
    obtain rfl : g' = g := by simpa [Value.ownBlock] using e'
    have := (show w.heap[g']? = _ from h).symm.trans hh
    simp at this
    exact hte this.2
/-- What place leaves: one page more behind the box Bo; blocks of other types as they were. -/
def PlacePost (Bo base : Nat) (n : Nat) (cs : List Value) (wr : World) (e : Ending) (w' : World) : Prop :=
  ∃ vo', e = .returned (.tuple #[]) ∧ Blk w' Bo 35 #[vo'] ∧ w'.ownsRow base 40 4 vo' n cs ∧ (∀ g t c, Blk wr g t c → t ≠ 40 → g ≠ Bo → Blk w' g t c) ∧ Below Bo wr w'
set_option maxRecDepth 100000 in
set_option maxHeartbeats 4000000 in
theorem place_any (C R : Nat) (v : Value) (x : Leaf) (t : Nat) (back half : Bool) (Bx Bt Bs Bo n : Nat) (vo : Value) (cs : List Value) (wr : World) (hC : 1 ≤ C) (hC8 : C ≤ 8) (ht : t < 4) (hx : x.c < C) (hn : n ≤ 1000)
    (h1 : Blk wr Bx 63 #[.int .i64 (x.c : Int), .int .i64 (x.r : Int), .bool x.fx, .bool x.fy]) (h2 : Blk wr Bt 3 #[.int .i64 (t : Int)]) (h3 : Blk wr Bs 24 #[.int .i64 (C : Int), .int .i64 (R : Int), v]) (h4 : Blk wr Bo 35 #[vo])
    (h5 : wr.ownsRow (Bo + 1) 40 4 vo n cs) :
    Calls Tryd.prog 19 #[.bool back, .bool half, .pointer (some ⟨Bx, 0, none⟩), .pointer (some ⟨Bt, 0, none⟩), .pointer (some ⟨Bs, 0, none⟩), .pointer (some ⟨Bo, 0, none⟩)] wr (PlacePost Bo (Bo + 1) (n + 1) (cs ++ pcell (pg C t x back half)) wr) := by
  have HPost : Hid (∀ e w', PlacePost Bo (Bo + 1) (n + 1) (cs ++ pcell (pg C t x back half)) wr e w' = ∃ vo', e = .returned (.tuple #[]) ∧ Blk w' Bo 35 #[vo'] ∧ w'.ownsRow (Bo + 1) 40 4 vo' (n + 1) (cs ++ pcell (pg C t x back half)) ∧ (∀ g t c, Blk wr g t c → t ≠ 40 → g ≠ Bo → Blk w' g t c) ∧ Below Bo wr w') := fun _ _ => rfl
  generalize PlacePost Bo (Bo + 1) (n + 1) (cs ++ pcell (pg C t x back half)) wr = Post at *
  have a0 : wr.cell? ⟨Bx, 0, none⟩ = some (.int .i64 (x.c : Int)) := h1.cell 0
  have a1 : wr.cell? ⟨Bx, 1, none⟩ = some (.int .i64 (x.r : Int)) := h1.cell 1
  have a2 : wr.cell? ⟨Bt, 0, none⟩ = some (.int .i64 (t : Int)) := h2.cell 0
  have a3 : wr.cell? ⟨Bs, 0, none⟩ = some (.int .i64 (C : Int)) := h3.cell 0
  have a4 : wr.cell? ⟨Bo, 0, none⟩ = some vo := h4.cell 0
  have l1 := h1.lt
  have l2 := h2.lt
  have l3 := h3.lt
  have l4 := h4.lt
  have HO := Lib.hid h5
  have H4 := Lib.hid h4
  clear h1 h2 h3 h4 h5
  obtain ⟨Ao, no, co, eo⟩ : ∃ A k c, vo = .slice A k c := by obtain ⟨A, c, e⟩ := own_form HO.out; exact ⟨_, _, _, e⟩
  have key : Hid (∀ (o1 o2 : Obj) (w1 : World) (v1 : Value), w1.ownsRow (Bo + 1) 40 4 v1 (n + 1) (cs ++ pcell (pg C t x back half)) → ((wr.alloc o1).alloc o2).grownBy w1 vo.ownBlock →
      w1.cell? ⟨Bo, 0, none⟩ = some vo ∧ w1.frozen? ⟨Bo, 0, none⟩ = false ∧ Bo < w1.heap.size ∧ Post (.returned (.tuple #[])) (w1.setCell ⟨Bo, 0, none⟩ v1)) := by
    intro o1 o2 w1 v1 hown hg
    have g4 : Blk w1 Bo 35 #[vo] := ((H4.out.alloc o1).alloc o2).grown hg (Ne.symm (own_ne H4.out (by decide) HO.out))
    refine ⟨g4.cell 0, g4.frozen 0, g4.lt, ?_⟩
    rw [HPost.out]
    refine ⟨v1, rfl, ?_, own_setCell hown (p := ⟨Bo, 0, none⟩) (.inl (by simp)) _, fun g t c hb hte hne => ?_, ?_⟩
    · have := g4.put 0 v1; simpa using this
    · exact (((hb.alloc o1).alloc o2).grown hg (Ne.symm (own_ne hb hte HO.out))).far (by simpa using hne) _
    · exact ((((Below.refl Bo wr).alloc (by omega) o1).alloc (by simp; omega) o2).grown hg (by simp; omega) fun k hk => by have := (own_lt HO.out k hk).1; omega).setCell (p := ⟨Bo, 0, none⟩) (Nat.le_refl _) _
  subst eo
  have N4 : Hid (∀ c2 t2 : Int, c2 = ((if back then C - 1 - x.c else x.c : Nat) : Int) → t2 = ((if half then (t + 2) % 4 else t : Nat) : Int) → [.bool back, .int .i64 c2, .int .i64 (x.r : Int), .int .i64 t2] = pcell (pg C t x back half)) := by
    rintro _ _ rfl rfl; rfl
  generalize pcell (pg C t x back half) = PC at *
  cases back <;> cases half
  · go_enter Tryd.func19, Tryd.ntmps19
    go_wp2_with (at_builtin; go_must (refine wpList_pushk ePg rfl (.tmp 29) (.tmp 31) rfl (Bo + 1) (.slice Ao no co) n _ rfl ((HO.out.alloc _).alloc _) ⟨wr.heap.size + 1, 0, none⟩ 1 [.bool false, .int .i64 (x.c : Int), .int .i64 (x.r : Int), .int .i64 (t : Int)] rfl rfl (news_new _ _ _ _ (by simp)) (by simp [Value.oneCell']) (by omega) (by omega) (by omega) (by simp; omega) ?_; intro v1 w1 hown1 hg1 _; rw [N4.out _ _ (by simp <;> omega) (by simp <;> omega)] at hown1; obtain ⟨g', cap', rfl⟩ := ownsRow_succ hown1; obtain ⟨q1, q2, q3, q4⟩ := key.out _ _ _ _ hown1 hg1; have Q4 := Lib.hid q4; clear q4 hown1 hg1))
    go_end0
    exact Q4.out
  · go_enter Tryd.func19, Tryd.ntmps19
    go_wp2_with (at_builtin; go_must (refine wpList_pushk ePg rfl (.tmp 29) (.tmp 31) rfl (Bo + 1) (.slice Ao no co) n _ rfl ((HO.out.alloc _).alloc _) ⟨wr.heap.size + 1, 0, none⟩ 1 [.bool false, .int .i64 (x.c : Int), .int .i64 (x.r : Int), .int .i64 (((t : Int) + 2) % 4)] rfl rfl (news_new _ _ _ _ (by simp)) (by simp [Value.oneCell']) (by omega) (by omega) (by omega) (by simp; omega) ?_; intro v1 w1 hown1 hg1 _; rw [N4.out _ _ (by simp <;> omega) (by simp <;> omega)] at hown1; obtain ⟨g', cap', rfl⟩ := ownsRow_succ hown1; obtain ⟨q1, q2, q3, q4⟩ := key.out _ _ _ _ hown1 hg1; have Q4 := Lib.hid q4; clear q4 hown1 hg1))
    go_end0
    exact Q4.out
  · go_enter Tryd.func19, Tryd.ntmps19
    go_wp2_with (at_builtin; go_must (refine wpList_pushk ePg rfl (.tmp 29) (.tmp 31) rfl (Bo + 1) (.slice Ao no co) n _ rfl ((HO.out.alloc _).alloc _) ⟨wr.heap.size + 1, 0, none⟩ 1 [.bool true, .int .i64 ((C : Int) - 1 - (x.c : Int)), .int .i64 (x.r : Int), .int .i64 (t : Int)] rfl rfl (news_new _ _ _ _ (by simp)) (by simp [Value.oneCell']) (by omega) (by omega) (by omega) (by simp; omega) ?_; intro v1 w1 hown1 hg1 _; rw [N4.out _ _ (by simp <;> omega) (by simp <;> omega)] at hown1; obtain ⟨g', cap', rfl⟩ := ownsRow_succ hown1; obtain ⟨q1, q2, q3, q4⟩ := key.out _ _ _ _ hown1 hg1; have Q4 := Lib.hid q4; clear q4 hown1 hg1))
    go_end0
    exact Q4.out
  · go_enter Tryd.func19, Tryd.ntmps19
    go_wp2_with (at_builtin; go_must (refine wpList_pushk ePg rfl (.tmp 29) (.tmp 31) rfl (Bo + 1) (.slice Ao no co) n _ rfl ((HO.out.alloc _).alloc _) ⟨wr.heap.size + 1, 0, none⟩ 1 [.bool true, .int .i64 ((C : Int) - 1 - (x.c : Int)), .int .i64 (x.r : Int), .int .i64 (((t : Int) + 2) % 4)] rfl rfl (news_new _ _ _ _ (by simp)) (by simp [Value.oneCell']) (by omega) (by omega) (by omega) (by simp; omega) ?_; intro v1 w1 hown1 hg1 _; rw [N4.out _ _ (by simp <;> omega) (by simp <;> omega)] at hown1; obtain ⟨g', cap', rfl⟩ := ownsRow_succ hown1; obtain ⟨q1, q2, q3, q4⟩ := key.out _ _ _ _ hown1 hg1; have Q4 := Lib.hid q4; clear q4 hown1 hg1))
    go_end0
    exact Q4.out
/-- What Pages has in memory. -/
structure PM (C R : Nat) (v : Value) (t : Nat) (Bs Bt Bo : Nat) (w1 wr : World) (vo : Value) (ps : List Pg) : Prop where
  bs : Blk wr Bs 24 #[.int .i64 (C : Int), .int .i64 (R : Int), v]
  bt : Blk wr Bt 3 #[.int .i64 (t : Int)]
  bo : Blk wr Bo 35 #[vo]
  own : wr.ownsRow (Bo + 1) 40 4 vo ps.length (pcells ps)
  be : Below w1.heap.size w1 wr
  hs : Bs ≠ Bo
  ht : Bt ≠ Bo
  hB : w1.heap.size ≤ Bo
theorem PM.alloc {C R : Nat} {v : Value} {t : Nat} {Bs Bt Bo : Nat} {w1 wr : World} {vo : Value} {ps : List Pg} (h : PM C R v t Bs Bt Bo w1 wr vo ps) (o : Obj) : PM C R v t Bs Bt Bo w1 (wr.alloc o) vo ps :=
  ⟨h.bs.alloc o, h.bt.alloc o, h.bo.alloc o, h.own.alloc o, h.be.alloc h.be.size o, h.hs, h.ht, h.hB⟩
theorem PM.place {C R : Nat} {v : Value} {t : Nat} {Bs Bt Bo : Nat} {w1 wr w' : World} {vo : Value} {ps : List Pg} {p : Pg} {e : Ending} (h : PM C R v t Bs Bt Bo w1 wr vo ps) (hp : PlacePost Bo (Bo + 1) (ps.length + 1) (pcells ps ++ pcell p) wr e w') :
    ∃ vo', e = .returned (.tuple #[]) ∧ PM C R v t Bs Bt Bo w1 w' vo' (ps ++ [p]) ∧ (∀ g t c, Blk wr g t c → t ≠ 40 → g ≠ Bo → Blk w' g t c) := by
  obtain ⟨vo', he, h1, h2, h3, h4⟩ := hp
  exact ⟨vo', he, ⟨h3 _ _ _ h.bs (by decide) h.hs, h3 _ _ _ h.bt (by decide) h.ht, h1, by rw [pcells_append, pcells_one, List.length_append]; exact h2, h.be.trans (h4.mono h.hB), h.hs, h.ht, h.hB⟩, h3⟩
def turnOf (sd : Int) : Nat := if sd = 0 then 0 else if sd = 1 then 2 else if sd = 2 then 1 else 3
theorem turnOf_lt (sd : Int) : turnOf sd < 4 := by unfold turnOf; split <;> (try split) <;> (try split) <;> omega
def PagesPost (ps : List Pg) (w : World) (e : Ending) (w' : World) : Prop :=
  ∃ v, e = .returned (.tuple #[v, .int .i64 0]) ∧ w'.ownsRow w.heap.size 40 4 v ps.length (pcells ps) ∧ Below w.heap.size w w'
theorem par_eq (t : Nat) : (((t : Int) % 2) == 1) = (t % 2 == 1) := by
  rw [Bool.eq_iff_iff, beq_iff_eq, beq_iff_eq]; omega
set_option maxRecDepth 100000 in
set_option maxHeartbeats 8000000 in
theorem pages_ok (C R : Nat) (v : Value) (l : List Step) (w : World) (hI : Sv w v l) (hg : Good C R l) (hw : whole C R l) :
    Calls Tryd.prog 8 #[.agg #[.int .i64 (C : Int), .int .i64 (R : Int), v]] w (PagesPost (pagesOf C (turnOf (lastSide l)) (endPile C R l)) w) := by
  have HI := Lib.hid hI
  obtain ⟨Av, cv, ev⟩ := SlM.form HI.out
  have hFo : Hid (∀ w', Below w.heap.size w w' → Calls Tryd.prog 18 #[.agg #[.int .i64 (C : Int), .int .i64 (R : Int), v]] w' (FoldedPost (endPile C R l) (lastSide l) w')) := fun w' hb => folded_ok C R v l w' (SlM.later HI.out hb) hg hw
  have hlen32 : (endPile C R l).length ≤ 32 := by rw [end_length hg.ok hw.1 hw.2]; exact hg.cr
  have hin : Hid (∀ x ∈ endPile C R l, x.c < C) := fun x hx => (end_in hw.1 hw.2 hx).1
  obtain ⟨s0, s1⟩ := lastSide_range hg.ok
  have htl := turnOf_lt (lastSide l)
  have hC1 := hg.c1
  have hC8 := hg.c8
  have HP : Hid (∀ e w', PagesPost (pagesOf C (turnOf (lastSide l)) (endPile C R l)) w e w' = ∃ v, e = .returned (.tuple #[v, .int .i64 0]) ∧ w'.ownsRow w.heap.size 40 4 v (pagesOf C (turnOf (lastSide l)) (endPile C R l)).length (pcells (pagesOf C (turnOf (lastSide l)) (endPile C R l))) ∧ Below w.heap.size w w') := fun _ _ => rfl
  generalize PagesPost (pagesOf C (turnOf (lastSide l)) (endPile C R l)) w = Post at *
  generalize endPile C R l = pile at *
  generalize lastSide l = sd at *
  have hsd : (sd = 0 ∧ turnOf sd = 0) ∨ (sd = 1 ∧ turnOf sd = 2) ∨ (sd = 2 ∧ turnOf sd = 1) ∨ (sd = 3 ∧ turnOf sd = 3) := by
    have : sd = 0 ∨ sd = 1 ∨ sd = 2 ∨ sd = 3 := by omega
    rcases this with rfl | rfl | rfl | rfl <;> simp [turnOf]
  generalize turnOf sd = t at *
  clear s0 s1 hg hw hI
  have hb0 := Lib.hid ((Below.refl w.heap.size w).alloc (Nat.le_refl _) (Obj.cells #[.int .i64 (C : Int), .int .i64 (R : Int), v] 24))
  have hbl0 := Lib.hid (Blk.new w 24 #[.int .i64 (C : Int), .int .i64 (R : Int), v])
  subst ev
  go_enter Tryd.func8, Tryd.ntmps8
  go_wp2_with fail
  refine (hFo.out _ hb0.out).mono ?_; rintro e w1 ⟨vL, rfl, hlv, hb1⟩
  have HX0 := Lib.hid (hbl0.out.below hb1 hbl0.out.lt)
  have HBe := Lib.hid (hb0.out.trans (hb1.mono hb0.out.size))
  have hz := HX0.out.lt
  obtain ⟨AL, cL, eL⟩ := SlM.form hlv
  subst eL
  have HLv := Lib.hid hlv
  clear hlv hb1
  generalize hnl : pile.length = nl at *
  have HNl := Lib.hid hnl
  clear hnl
  go_upto_region 4 with (fail)
  have fin : ∀ (o : Obj), PM C R (.slice Av l.length cv) t w.heap.size (w1.heap.size + 1) (w1.heap.size + 1 + 1) w1 (((w1.alloc o).alloc (.cells #[.int .i64 (t : Int)] 3)).alloc (.cells #[.slice none 0 0] 35)) (.slice none 0 0) [] := by
    intro o
    refine ⟨((HX0.out.alloc _).alloc _).alloc _, ?_, ?_, ⟨rfl, .inl ⟨rfl, rfl⟩⟩, (((Below.refl _ _).alloc (Nat.le_refl _) _).alloc (by simp) _).alloc (by simp; omega) _, by omega, by omega, by omega⟩
    · have := (Blk.new (w1.alloc o) 3 #[.int .i64 (t : Int)]).alloc (.cells #[.slice none 0 0] 35)
      simpa using this
    · have := Blk.new ((w1.alloc o).alloc (.cells #[.int .i64 (t : Int)] 3)) 35 #[.slice none 0 0]
      simpa using this
  have HFin := Lib.hid fin
  clear fin
  generalize hVS : Value.slice Av l.length cv = vS at *
  have HT : Hid ((sd = 0 ∧ t = 0) ∨ (sd = 1 ∧ t = 2) ∨ (sd = 2 ∧ t = 1) ∨ (sd = 3 ∧ t = 3)) := hsd
  rcases hsd with ⟨rfl, et⟩ | ⟨rfl, et⟩ | ⟨rfl, et⟩ | ⟨rfl, et⟩
  all_goals
    have HEt := Lib.hid et
    clear et
    go_wp2
    go_loopw [28] (fun vj wr => ∃ (j : Nat) (vo : Value), j ≤ nl ∧ vj = .int .i64 j ∧ PM C R vS t w.heap.size (w1.heap.size + 1) (w1.heap.size + 1 + 1) w1 wr vo (pagesOf C t (pile.take j))) (fun j _ => nl - (intOf j).toNat)
    case atStart =>
      refine ⟨0, .slice none 0 0, by omega, rfl, ?_⟩
      have h1 := HFin.out (Obj.cells #[.int .i64 0, .int .i64 2, .int .i64 1, .int .i64 3] 3)
      rw [HEt.out] at h1 ⊢
      exact h1
    case round =>
      obtain ⟨j, vo, hj, rfl, hm⟩ := hrel
      by_cases hlt : j < nl
      · obtain ⟨bL, oL, cL', eL, _, hbL, _, _, hcL⟩ := (HLv.out).cells4 (by rw [HNl.out]; omega)
        obtain ⟨g0, g1, g2, g3⟩ := hcL j (by rw [HNl.out]; exact hlt)
        rw [HNl.out] at eL
        injection eL with eA _ eC
        subst eA; subst eC
        have d0 := (hm.be.cell (p := ⟨bL, oL + j * 4, none⟩) hbL).trans g0
        have d1 := (hm.be.cell (p := ⟨bL, oL + j * 4 + 1, none⟩) hbL).trans g1
        have d2 := (hm.be.cell (p := ⟨bL, oL + j * 4 + 2, none⟩) hbL).trans g2
        have d3 := (hm.be.cell (p := ⟨bL, oL + j * 4 + 3, none⟩) hbL).trans g3
        have hxin := hin.out (lf pile j) (by rw [lf_eq pile (by rw [HNl.out]; exact hlt)]; exact List.getElem_mem _)
        have HNx : Hid (pagesOf C t (pile.take (j + 1)) = pagesOf C t (pile.take j) ++ [pgUp C t (lf pile j)] ++ [pgDown C t (lf pile j)]) := by
          unfold Hid
          rw [List.take_succ_eq_append_getElem (by rw [HNl.out]; exact hlt), pagesOf_snoc, ← lf_eq pile (by rw [HNl.out]; exact hlt)]; simp
        have hpl : (pagesOf C t (pile.take j)).length ≤ 100 := by rw [pagesOf_length, List.length_take]; omega
        have HUp : Hid (∀ x, pgUp C t x = pg C t x (!(x.fx == x.fy)) x.fy) := fun _ => rfl
        have HDown : Hid (∀ x, pgDown C t x = pg C t x (x.fx == x.fy) (!(x.fy == ((t : Int) % 2 == 1)))) := fun x => by rw [par_eq]; unfold pgDown bne; rw [Bool.not_not]
        clear g0 g1 g2 g3 hcL
        generalize lf pile j = x at *
        generalize pagesOf C t (pile.take j) = ps at *
        obtain ⟨xc, xr, xfx, xfy⟩ := x
        dsimp only at d0 d1 d2 d3 hxin
        have HM1 := Lib.hid (hm.alloc (.cells #[.int .i64 (xc : Int), .int .i64 (xr : Int), .bool xfx, .bool xfy] 63))
        have HB1 := Lib.hid (Blk.new wr 63 #[.int .i64 (xc : Int), .int .i64 (xr : Int), .bool xfx, .bool xfy])
        have hzr : w1.heap.size + 1 + 1 < wr.heap.size := hm.bo.lt
        clear hm
        go_wp2_with (first
          | (go_at_call 19; refine (place_any C R vS ⟨xc, xr, xfx, xfy⟩ t _ _ wr.heap.size (w1.heap.size + 1) w.heap.size (w1.heap.size + 1 + 1) _ vo2 (pcells (ps ++ [pgUp C t ⟨xc, xr, xfx, xfy⟩])) w2 hC1 hC8 htl hxin (by simp; omega) HB2.out HM2.out.bt HM2.out.bs HM2.out.bo HM2.out.own).mono ?_; rintro e w3 hp; obtain ⟨vo3, rfl, hm3, _⟩ := HM2.out.place hp; have HM3 := Lib.hid hm3; clear hp hm3)
          | (go_at_call 19; refine (place_any C R vS ⟨xc, xr, xfx, xfy⟩ t _ _ wr.heap.size (w1.heap.size + 1) w.heap.size (w1.heap.size + 1 + 1) _ vo (pcells ps) _ hC1 hC8 htl hxin (by omega) HB1.out HM1.out.bt HM1.out.bs HM1.out.bo HM1.out.own).mono ?_; rintro e w2 hp; obtain ⟨vo2, rfl, hm2, hk2⟩ := HM1.out.place hp; rw [← HUp.out ⟨xc, xr, xfx, xfy⟩] at hm2; have hb2 := hk2 _ _ _ HB1.out (by decide) (by omega); have e3 : w2.cell? ⟨wr.heap.size, 3, none⟩ = some (.bool xfy) := hb2.cell 3; have e4 : w2.cell? ⟨w1.heap.size + 1, 0, none⟩ = some (.int .i64 (t : Int)) := hm2.bt.cell 0; have HM2 := Lib.hid hm2; have HB2 := Lib.hid hb2; clear hp hm2 hk2 hb2))
        refine ⟨⟨j + 1, vo3, by omega, by go_num, ?_⟩, by simp [intOf]; omega⟩
        have h3 := HM3.out
        rw [← HDown.out ⟨xc, xr, xfx, xfy⟩] at h3
        rw [HNx.out]; exact h3
      · obtain rfl : j = nl := by omega
        rw [List.take_of_length_le (by rw [HNl.out]; exact Nat.le_refl _)] at hm
        obtain ⟨Ao, co, eo⟩ := own_form hm.own
        subst eo
        have c0 : wr.cell? ⟨w1.heap.size + 1 + 1, 0, none⟩ = some (.slice Ao _ co) := hm.bo.cell 0
        have HM := Lib.hid hm
        clear hm
        go_wp2
        rw [HP.out]
        exact ⟨_, rfl, own_base HM.out.own (by omega), HBe.out.trans (HM.out.be.mono (by omega))⟩
end Go.Proofs.YtjmanooedgfbaaaDoor
