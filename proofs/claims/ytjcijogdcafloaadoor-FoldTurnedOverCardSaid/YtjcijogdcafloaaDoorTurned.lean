/- The walk of FoldTurnedOver. -/
import Derived.Test.YtjcijogdcafloaaDoorPrint
import Derived.Test.YtjcijogdcafloaaDoorTurnPlain
import Derived.Test.YtjcijogdcafloaaDoorEqualLeaf
import Derived.Test.YtjcijogdcafloaaDoorRevLeaf
namespace Go.Proofs.YtjcijogdcafloaaDoor
open Go.RowKit
theorem eStep : ElemK Tryd.prog 22 45 (.agg #[.int .i64 0, .int .i64 0, .bool false]) 3 24 := ElemK.mk_ Tryd.underlying22 (by kernel_rfl) rfl
theorem scells_snoc (l : List Step) (f : Step) : scells (l ++ [f]) = scells l ++ scell f := by simp [scells]
theorem pileZ_zero {C R k : Int} {l : List Step} (hz : pileZ C R l k 0 0 = 0) : ∃ c r j : Nat, C = c ∧ R = r ∧ k = j ∧ Good c r l ∧ j ≤ l.length ∧ 0 < (foldAll (flatS c r) (l.take j)).cols ∧ 0 < (foldAll (flatS c r) (l.take j)).rows := by
  have hz0 : afterZ C R l k = 0 := by
    by_cases h : afterZ C R l k = 0
    · exact h
    · unfold pileZ at hz; rw [if_pos h] at hz; exact absurd hz h
  obtain ⟨c', r', j, rfl, rfl, rfl, hg, hj⟩ := afterZ_zero hz0
  have hin : (0 : Int) < (foldAll (flatS c' r') (l.take j)).cols ∧ (0 : Int) < (foldAll (flatS c' r') (l.take j)).rows := by
    unfold pileZ at hz
    rw [if_neg (by simpa using hz0)] at hz
    simp only [Int.toNat_natCast] at hz
    by_cases h : (0 : Int) ≤ 0 ∧ (0 : Int) ≤ 0 ∧ (0 : Int) < (foldAll (flatS c' r') (l.take j)).cols ∧ (0 : Int) < (foldAll (flatS c' r') (l.take j)).rows
    · exact ⟨h.2.2.1, h.2.2.2⟩
    · rw [if_neg h] at hz; cases hz
  exact ⟨c', r', j, rfl, rfl, rfl, hg, hj, by omega, by omega⟩
/-- Pile at the only place, with its row for the caller's own. -/
def OPost (C R : Int) (l : List Step) (k : Int) (w : World) (e : Ending) (w' : World) : Prop :=
  (pileZ C R l k 0 0 = 0 → PileOwn ((foldAll (flatS C.toNat R.toNat) (l.take k.toNat)).P 0 0) w e w') ∧ (pileZ C R l k 0 0 ≠ 0 → PileErr (pileZ C R l k 0 0) w e w')
theorem fpile_own (C R k : Int) (v : Value) (l : List Step) (w : World) (hI : Sv w v l) :
    Calls Tryd.prog 14 #[.agg #[.int .i64 C, .int .i64 R, v], .int .i64 k, .int .i64 0, .int .i64 0] w (OPost C R l k w) := by
  by_cases hz : pileZ C R l k 0 0 = 0
  · obtain ⟨c', r', j, rfl, rfl, rfl, hg, hj, h1, h2⟩ := pileZ_zero hz
    obtain ⟨m1, m2, m3⟩ := pile_max hg j (c := 0) (r := 0) h1 h2
    refine (place_own c' r' j v l 0 0 w hI (foldAll (flatS c' r') (l.take j)) m2 m3 h1 h2 m1 fun w' hb => after_good hg (SlM.later hI hb) hj).mono ?_
    intro e w' hp
    exact ⟨fun _ => by simpa only [Int.toNat_natCast] using hp, fun h => absurd hz h⟩
  · refine (fpile_any C R k 0 0 v l w hI).mono ?_
    intro e w' hp
    exact ⟨fun h => absurd h hz, fun _ => hp.2 hz⟩
theorem take_map_snoc (l : List Step) {j : Nat} (h : j < l.length) : scells ((l.take (j + 1)).map other) = scells ((l.take j).map other) ++ [.int .i64 (st l j).side, .int .i64 (st l j).line, .bool (!(st l j).over)] := by
  rw [take_step l h, List.map_append, List.map_cons, List.map_nil, scells_snoc]; rfl
set_option maxRecDepth 100000 in
set_option maxHeartbeats 8000000 in
theorem turned_any (C R : Int) (v : Value) (l : List Step) (w : World) (hI : Sv w v l) (hlen : l.length * 24 ≤ 140737488355328) :
    Calls Tryd.prog 6 #[.agg #[.int .i64 C, .int .i64 R, v]] w fun e w' => e = .returned (.bool true) ∧ Below w.heap.size w w' := by
  have HI := Lib.hid hI
  obtain ⟨Av, cv, ev⟩ := SlM.form HI.out
  have HF := Lib.hid folds_any
  have hb0 := Lib.hid ((Below.refl w.heap.size w).alloc (Nat.le_refl _) (Obj.cells #[.int .i64 C, .int .i64 R, v] 24))
  have hbl0 := Lib.hid (Blk.new w 24 #[.int .i64 C, .int .i64 R, v])
  have HS : Hid (∀ w', Below w.heap.size w w' → Sv w' v l) := fun w' hb => SlM.later HI.out hb
  have HTk : Hid (∀ j, j < l.length → scells ((l.take (j + 1)).map other) = scells ((l.take j).map other) ++ [.int .i64 (st l j).side, .int .i64 (st l j).line, .bool (!(st l j).over)]) := fun j h => take_map_snoc l h
  have HTl : Hid (∀ j, j ≤ l.length → ((l.take j).map other).length = j) := fun j h => by rw [List.length_map, List.length_take]; omega
  have HTa : Hid (l.take l.length = l) := List.take_length
  have HP1 : Hid (∀ w', Below w.heap.size w w' → Calls Tryd.prog 14 #[.agg #[.int .i64 C, .int .i64 R, v], .int .i64 (l.length : Nat), .int .i64 0, .int .i64 0] w' (OPost C R l (l.length : Nat) w')) := fun w' hb => fpile_own C R _ v l w' (SlM.later HI.out hb)
  have HP2 : Hid (∀ w' v', Sv w' v' (l.map other) → Calls Tryd.prog 14 #[.agg #[.int .i64 C, .int .i64 R, v'], .int .i64 (l.length : Nat), .int .i64 0, .int .i64 0] w' (OPost C R (l.map other) (l.length : Nat) w')) := fun w' v' hs => fpile_own C R _ v' (l.map other) w' hs
  have HZ : Hid (pileZ C R (l.map other) (l.length : Nat) 0 0 = pileZ C R l (l.length : Nat) 0 0) := pileZ_other C R 0 0 l
  have HQ : Hid ((foldAll (flatS C.toNat R.toNat) ((l.map other).take l.length)).P 0 0 = ((foldAll (flatS C.toNat R.toNat) (l.take l.length)).P 0 0).reverse) := pile_other C.toNat R.toNat l 0 0
  have hq : pileZ C R l (l.length : Nat) 0 0 = 0 → ((foldAll (flatS C.toNat R.toNat) (l.take l.length)).P 0 0).length ≤ 100000 := fun hz => by
    obtain ⟨c', r', j, rfl, rfl, ej, hg, hj, h1, h2⟩ := pileZ_zero hz
    obtain rfl : l.length = j := by omega
    exact (pile_max hg l.length h1 h2).1
  generalize hn : l.length = n at *
  have HN := Lib.hid hn
  clear hI hn
  subst ev
  go_enter Tryd.func6, Tryd.ntmps6
  go_wp2_with fail
  refine (HF.out _).mono ?_; rintro e w1 ⟨rfl, hb1⟩
  have hx0 := hbl0.out.below hb1 hbl0.out.lt
  have HB1 := Lib.hid (hb0.out.trans (hb1.mono hb0.out.size))
  have c0 : w1.cell? ⟨w.heap.size, 0, none⟩ = some (.int .i64 C) := hx0.cell 0
  have c1 : w1.cell? ⟨w.heap.size, 1, none⟩ = some (.int .i64 R) := hx0.cell 1
  have c2 : w1.cell? ⟨w.heap.size, 2, none⟩ = some (.slice Av n cv) := hx0.cell 2
  have hlt0 := hx0.lt
  have HX0 := Lib.hid hx0
  clear hb1 hx0
  go_wp2
  clear c0 c1 c2
  go_loopw [17] (fun vj wr => ∃ (j : Nat) (vo : Value), j ≤ n ∧ vj = .int .i64 j ∧ Blk wr w1.heap.size 24 #[.int .i64 C, .int .i64 R, vo] ∧ wr.ownsRow (w1.heap.size + 1) 45 3 vo j (scells ((l.take j).map other)) ∧ Below w1.heap.size w1 wr) (fun j _ => n - (intOf j).toNat)
  case atStart =>
    refine ⟨0, .slice none 0 0, by omega, rfl, ?_, ?_, ?_⟩
    · exact Blk.new w1 24 _
    · exact ⟨rfl, .inl ⟨rfl, rfl⟩⟩
    · exact (Below.refl _ _).alloc (Nat.le_refl _) _
  case round =>
    obtain ⟨j, vo, hj, rfl, hbk, hown, hb⟩ := hrel
    by_cases hlt : j < n
    · obtain ⟨b1, o1, c1, ev1, hl1, _, _, h1⟩ := Sv.cells3 HI.out (by rw [HN.out]; omega)
      injection ev1 with e1 e1' e1''
      clear e1'
      subst e1 e1''
      obtain ⟨p0, p1, p2⟩ := h1 j (by rw [HN.out]; exact hlt)
      have q0 := (HB1.out.trans (hb.mono HB1.out.size)).cell (p := ⟨b1, o1 + j * 3, none⟩) hl1 |>.trans p0
      have q1 := (HB1.out.trans (hb.mono HB1.out.size)).cell (p := ⟨b1, o1 + j * 3 + 1, none⟩) hl1 |>.trans p1
      have q2 := (HB1.out.trans (hb.mono HB1.out.size)).cell (p := ⟨b1, o1 + j * 3 + 2, none⟩) hl1 |>.trans p2
      have HT1 := Lib.hid (HTk.out j hlt)
      have hz : b1 < wr.heap.size := by have := HB1.out.size; have := hb.size; omega
      have k2 : wr.cell? ⟨w1.heap.size, 2, none⟩ = some vo := hbk.cell 2
      have kf := hbk.frozen 2
      have kl := hbk.lt
      have HBk := Lib.hid hbk
      have HOw := Lib.hid hown
      have HB := Lib.hid hb
      obtain ⟨Ao, co, eo⟩ := own_form hown
      subst eo
      clear hbk hown hb p0 p1 p2 h1
      generalize st l j = f at *
      obtain ⟨sd, ln, ov⟩ := f
      dsimp only at q0 q1 q2
      have key : Hid (∀ (o1 o2 : Obj) (w2 : World), ((wr.alloc o1).alloc o2).grownBy w2 (Value.slice Ao j co).ownBlock → Blk w2 w1.heap.size 24 #[.int .i64 C, .int .i64 R, .slice Ao j co] ∧ Below w1.heap.size w1 w2) := fun o1 o2 w2 hg => by
        refine ⟨((HBk.out.alloc o1).alloc o2).grown hg (Ne.symm (own_ne HBk.out (by decide) HOw.out)), ?_⟩
        exact ((HB.out.alloc HB.out.size o1).alloc (by have := HB.out.size; simp; omega) o2).grown hg (by have := HB.out.size; simp; omega) fun k hk => by have := (own_lt HOw.out k hk).1; omega
      go_wp2_with (at_builtin; go_must (refine wpList_pushk eStep rfl (.tmp 26) (.tmp 28) rfl (w1.heap.size + 1) (.slice Ao j co) j _ rfl ((HOw.out.alloc _).alloc _) ⟨wr.heap.size + 1, 0, none⟩ 1 [.int .i64 sd, .int .i64 ln, .bool (!ov)] rfl rfl (news_new _ _ _ _ (by simp)) (by simp [Value.oneCell']) (by omega) (by omega) (by omega) (by simp; omega) ?_; intro v2 w2 hown2 hg2 _; rw [← HT1.out] at hown2; obtain ⟨g', cap', rfl⟩ := ownsRow_succ hown2; obtain ⟨hbk2, hb2⟩ := key.out _ _ _ hg2; have HO2 := Lib.hid hown2; have HBk2 := Lib.hid hbk2; have HB2 := Lib.hid hb2; have kf2 := hbk2.frozen 2; have k22 : w2.cell? ⟨w1.heap.size, 2, none⟩ = some (.slice Ao j co) := hbk2.cell 2; have kl2 := hbk2.lt; clear hown2 hg2 hbk2 hb2))
      go_roundw
      case rel =>
        refine ⟨j + 1, .slice (some ⟨g', 0, none⟩) (j + 1) cap', by omega, by go_num, ?_, ?_, ?_⟩
        · have := HBk2.out.put 2 (.slice (some ⟨g', 0, none⟩) (j + 1) cap'); simpa using this
        · exact own_setCell HO2.out (p := ⟨w1.heap.size, 2, none⟩) (.inl (by simp)) _
        · exact HB2.out.setCell (p := ⟨w1.heap.size, 2, none⟩) (Nat.le_refl _) _
      case measure => simp [intOf]; omega
    · obtain rfl : j = n := by omega
      have hown2 : wr.ownsRow (w1.heap.size + 1) 45 3 vo j (scells (l.map other)) := by
        rw [HTa.out] at hown; exact hown
      have hsv : Sv wr vo (l.map other) := by
        have h1 := SlM.mono (ok' := fun _ => True) (SlM.of_own hown2) fun _ _ _ => trivial
        unfold Sv; rw [List.length_map, HN.out]; exact h1
      have HSv := Lib.hid hsv
      have HBk := Lib.hid hbk
      have HB := Lib.hid (HB1.out.trans (hb.mono HB1.out.size))
      have hT : w1.heap.size < wr.heap.size := hbk.lt
      have x := HX0.out.below hb HX0.out.lt
      have c0 : wr.cell? ⟨w.heap.size, 0, none⟩ = some (.int .i64 C) := x.cell 0
      have c1 : wr.cell? ⟨w.heap.size, 1, none⟩ = some (.int .i64 R) := x.cell 1
      have c2 : wr.cell? ⟨w.heap.size, 2, none⟩ = some (.slice Av j cv) := x.cell 2
      have hlt1 := x.lt
      obtain ⟨At, ct, et⟩ := own_form hown2
      subst et
      clear hown hown2 hsv hbk hb x
      generalize hz : pileZ C R l (j : Int) 0 0 = z at *
      have hz' := HZ.out
      by_cases hz0 : z = 0
      · have HA : Hid (∀ w', Below w.heap.size w w' → Calls Tryd.prog 14 #[.agg #[.int .i64 C, .int .i64 R, .slice Av j cv], .int .i64 (j : Nat), .int .i64 0, .int .i64 0] w' (PileOwn ((foldAll (flatS C.toNat R.toNat) (l.take j)).P 0 0) w')) := fun w' hb => (HP1.out w' hb).mono fun e w'' h => h.1 (by rw [hz]; exact hz0)
        have HB2 : Hid (∀ w' v', Sv w' v' (l.map other) → Calls Tryd.prog 14 #[.agg #[.int .i64 C, .int .i64 R, v'], .int .i64 (j : Nat), .int .i64 0, .int .i64 0] w' (PileOwn ((foldAll (flatS C.toNat R.toNat) (l.take j)).P 0 0).reverse w')) := fun w' v' hs => (HP2.out w' v' hs).mono fun e w'' h => by
          have := h.1 (by rw [hz']; exact hz0)
          rw [← HQ.out]; exact this
        have hq1 := hq hz0
        clear hz hz' hz0 HP1 HP2 HZ hq HQ
        generalize (foldAll (flatS C.toNat R.toNat) (l.take j)).P 0 0 = q at *
        go_wp2_with fail
        refine (HA.out _ HB.out).mono ?_; rintro e w3 ⟨va, rfl, hoa, hb3⟩
        obtain ⟨Aa, ca, ea⟩ := own_form hoa
        have hla : Lv w3 (fun b => b < w3.heap.size) va q := SlM.mono (SlM.of_own hoa) fun _ hb _ => hb
        have HLa := Lib.hid hla
        have HB3 := Lib.hid (HB.out.trans (hb3.mono HB.out.size))
        have HSv3 := Lib.hid (SlM.later HSv.out hb3)
        have y := HBk.out.below hb3 HBk.out.lt
        have d0 : w3.cell? ⟨w1.heap.size, 0, none⟩ = some (.int .i64 C) := y.cell 0
        have d1 : w3.cell? ⟨w1.heap.size, 1, none⟩ = some (.int .i64 R) := y.cell 1
        have d2 : w3.cell? ⟨w1.heap.size, 2, none⟩ = some (.slice At j ct) := y.cell 2
        have hlt3 := y.lt
        subst ea
        generalize hqn : q.length = nq at *
        have HQn := Lib.hid hqn
        clear hb3 y c0 c1 c2 hla hoa hqn
        go_wp2_with fail
        refine (HB2.out _ _ HSv3.out).mono ?_; rintro e w4 ⟨vb, rfl, hob, hb4⟩
        rw [List.length_reverse, HQn.out] at hob
        obtain ⟨Ab, cb, eb⟩ := own_form hob
        subst eb
        have HOb := Lib.hid hob
        have HB4 := Lib.hid (HB3.out.trans (hb4.mono HB3.out.size))
        have HB34 := Lib.hid hb4
        clear hb4 d0 d1 d2 hob
        go_wp2_with fail
        refine (rev_own _ w3.heap.size nq q.reverse _ HOb.out (by rw [List.length_reverse]; exact HQn.out) hq1).mono ?_; rintro e w5 ⟨rfl, hlb, hb5⟩
        rw [List.reverse_reverse] at hlb
        have HLb := Lib.hid hlb
        have HB5 := Lib.hid (HB4.out.trans (hb5.mono (by have := HB3.out.size; exact this)))
        have HL5 := Lib.hid (SlM.later HLa.out (HB34.out.trans hb5))
        clear hlb hb5
        go_wp2_with fail
        refine (equal_leaf _ _ q _ _ _ HL5.out HLb.out (by rw [HQn.out]; exact hq1)).mono ?_; rintro e w6 ⟨rfl, hb6⟩
        have HB6 := Lib.hid (HB5.out.trans (hb6.mono HB5.out.size))
        clear hb6
        go_wp2
        go_ret
        exact ⟨rfl, HB6.out⟩
      · have HA : Hid (∀ w', Below w.heap.size w w' → Calls Tryd.prog 14 #[.agg #[.int .i64 C, .int .i64 R, .slice Av j cv], .int .i64 (j : Nat), .int .i64 0, .int .i64 0] w' (PileErr z w')) := fun w' hb => (HP1.out w' hb).mono fun e w'' h => by have := h.2 (by rw [hz]; exact hz0); rw [hz] at this; exact this
        have HB2 : Hid (∀ w' v', Sv w' v' (l.map other) → Calls Tryd.prog 14 #[.agg #[.int .i64 C, .int .i64 R, v'], .int .i64 (j : Nat), .int .i64 0, .int .i64 0] w' (PileErr z w')) := fun w' v' hs => (HP2.out w' v' hs).mono fun e w'' h => by have := h.2 (by rw [hz']; exact hz0); rw [hz'] at this; exact this
        have hz1 : (z != 0) = true := by simpa using hz0
        clear hz hz' hz0 HP1 HP2 HZ hq
        go_wp2_with fail
        refine (HA.out _ HB.out).mono ?_; rintro e w3 ⟨rfl, hb3⟩
        have HB3 := Lib.hid (HB.out.trans (hb3.mono HB.out.size))
        have HSv3 := Lib.hid (SlM.later HSv.out hb3)
        have y := HBk.out.below hb3 HBk.out.lt
        have d0 : w3.cell? ⟨w1.heap.size, 0, none⟩ = some (.int .i64 C) := y.cell 0
        have d1 : w3.cell? ⟨w1.heap.size, 1, none⟩ = some (.int .i64 R) := y.cell 1
        have d2 : w3.cell? ⟨w1.heap.size, 2, none⟩ = some (.slice At j ct) := y.cell 2
        have hlt3 := y.lt
        clear hb3 y c0 c1 c2
        go_wp2_with fail
        refine (HB2.out _ _ HSv3.out).mono ?_; rintro e w4 ⟨rfl, hb4⟩
        have HB4 := Lib.hid (HB3.out.trans (hb4.mono HB3.out.size))
        clear hb4 d0 d1 d2
        go_wp2
        go_ret
        exact ⟨rfl, HB4.out⟩
end Go.Proofs.YtjcijogdcafloaaDoor
