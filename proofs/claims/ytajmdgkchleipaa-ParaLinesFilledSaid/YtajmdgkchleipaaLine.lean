/- The walk of line: the spaces of a line. -/
import Derived.Test.YtajmdgkchleipaaCost
import Derived.Deep.RegionHeld3
import Derived.Deep.DeepMust
import Derived.Deep.DrawnRows
import Derived.Deep.RegionLaw
import Derived.Deep.DeepCutAuto
namespace Go.Proofs.Ytajmdgkchleipaa
open Go.RowKit Para
theorem eInt : ElemT Try.prog 31 3 (.int .i64 0) 8 := ElemT.mk_ Try.underlying31 (by kernel_rfl) rfl
/-- The i-th space of a line with G spaces in all and room for them. -/
def gapAt (room : Int) (G i : Nat) : Int := ((i : Int) + 1) * room / (G : Int) - (i : Int) * room / (G : Int)
def gapsTo (room : Int) (G k : Nat) : List Int := (List.range k).map fun i => gapAt room G i
theorem gapsTo_succ (room : Int) (G k : Nat) : gapsTo room G (k + 1) = gapsTo room G k ++ [gapAt room G k] := by simp [gapsTo, List.range_succ]
def roomOf (s : Shape) (u : List Part) (m : Nat) : Int := if m = u.length then min (s.W - fixW s u m) (fixG u m * s.S) else s.W - fixW s u m
def LinePost (l : List Part) (i k : Nat) (s : Shape) (w : World) (e : Ending) (w' : World) : Prop :=
  ∃ gv, e = .returned (.agg #[.int .i64 (i : Int), .int .i64 (k : Int), .bool (!(pt l (k - 1)).last), gv]) ∧
    w'.ownsRow w.heap.size 3 1 gv (fixG (l.drop i) (k - i)).toNat (ints (gapsTo (roomOf s (l.drop i) (k - i)) (fixG (l.drop i) (k - i)).toNat (fixG (l.drop i) (k - i)).toNat)) ∧ Below w.heap.size w w'
theorem line_in {w1 wr w2 : World} {room : Int} {G j g2 cap2 : Nat} {a b c gv : Value} {ob : Obj} (hlt : j < G) (hB : Blk wr w1.heap.size 35 #[a, b, c, gv]) (ho : wr.ownsRow (w1.heap.size + 1) 3 1 gv j (ints (gapsTo room G j))) (hb : Below w1.heap.size w1 wr)
    (hne : some w1.heap.size ≠ gv.ownBlock) (hown2 : w2.ownsRow (w1.heap.size + 1) 3 1 (.slice (some ⟨g2, 0, none⟩) (j + 1) cap2) (j + 1) (ints (gapsTo room G j) ++ [.int .i64 (gapAt room G j)])) (hg2 : (wr.alloc ob).drew.grownBy w2 gv.ownBlock) :
    ∃ (j1 : Nat) (gv1 : Value), j1 ≤ G ∧ Value.int .i64 ((j : Int) + 1) = .int .i64 (j1 : Int) ∧ Blk (w2.setCell ⟨w1.heap.size, 3, none⟩ (.slice (some ⟨g2, 0, none⟩) (j + 1) cap2)) w1.heap.size 35 #[a, b, c, gv1] ∧
      (w2.setCell ⟨w1.heap.size, 3, none⟩ (.slice (some ⟨g2, 0, none⟩) (j + 1) cap2)).ownsRow (w1.heap.size + 1) 3 1 gv1 j1 (ints (gapsTo room G j1)) ∧ Below w1.heap.size w1 (w2.setCell ⟨w1.heap.size, 3, none⟩ (.slice (some ⟨g2, 0, none⟩) (j + 1) cap2)) := by
  have hs := hb.size
  refine ⟨j + 1, .slice (some ⟨g2, 0, none⟩) (j + 1) cap2, by omega, by go_num, ?_, ?_, ?_⟩
  · have h1 := (((hB.alloc ob).drew).grown hg2 hne).put 3 (.slice (some ⟨g2, 0, none⟩) (j + 1) cap2)
    simpa using h1
  · rw [gapsTo_succ, ints_append]
    exact ownsRow_setCell_below hown2 (by simp) _
  · exact (((hb.alloc hs ob).drew).grown hg2 (le_alloc hs _) fun k hk => by have := (own_lt ho k hk).1; omega).setCell (Nat.le_refl _) _
set_option maxHeartbeats 4000000 in
theorem line_any (l : List Part) (g c i k : Nat) (s : Shape) (w : World) (hl : l.length ≤ 256) (hP : Parts w g l) (hok : AllOk l) (hs : ShapeOk s) (hik : i < k) (hk : k ≤ l.length) (hfit : fixW s (l.drop i) (k - i) ≤ s.W) :
    Calls Try.prog 13 #[.slice (some ⟨g, 0, none⟩) l.length c, .int .i64 (i : Int), .int .i64 (k : Int), .agg #[.int .i64 s.W, .int .i64 s.S, .int .i64 s.Lo, .int .i64 s.Mo, .int .i64 s.H, .int .i64 s.C]] w (LinePost l i k s w) := by
  obtain ⟨sW, sS, sLo, sMo, sH, sC⟩ := s
  have hs' := hs
  obtain ⟨W0, W1, L0, LS, SM, M1, H0, H1, C0, C1⟩ := hs'
  obtain ⟨b0, b1, b2, b3⟩ := fixTo_bd (hok.drop i) (k - i)
  dsimp only at *
  have hx0 : -600000 ≤ fixW ⟨sW, sS, sLo, sMo, sH, sC⟩ (l.drop i) (k - i) := by unfold fixW; split <;> (try dsimp only) <;> omega
  have hy0 : 0 ≤ fixG (l.drop i) (k - i) := b2
  have hy1 : fixG (l.drop i) (k - i) ≤ 256 := by have : fixG (l.drop i) (k - i) = (fixTo (l.drop i) (k - i)).2 := rfl; omega
  have hb0 := ((Below.refl w.heap.size w).alloc (Nat.le_refl _) (Obj.cells #[Value.int .i64 sW, Value.int .i64 sS, Value.int .i64 sLo, Value.int .i64 sMo, Value.int .i64 sH, Value.int .i64 sC] 24)).alloc (by simp) (Obj.cells #[Value.int .i64 0, Value.int .i64 0, Value.bool false, Value.slice none 0 0] 35)
  have hF := fixed_any l g c i k _ _ hl (hP.later hb0) hok hs hik hk
  have hP1 := hP.later hb0
  have HL3 := Lib.hid (hP1.c3 (k - 1) (by omega))
  obtain ⟨q, rfl⟩ : ∃ q, k = q + 1 := ⟨k - 1, by omega⟩
  rw [show ((q + 1 : Nat) : Int) = (q : Int) + 1 from rfl] at hF ⊢
  have HF := Lib.hid hF
  clear hF
  have hroom : Hid (roomOf ⟨sW, sS, sLo, sMo, sH, sC⟩ (l.drop i) (q + 1 - i) = if q + 1 = l.length then min (sW - fixW ⟨sW, sS, sLo, sMo, sH, sC⟩ (l.drop i) (q + 1 - i)) (fixG (l.drop i) (q + 1 - i) * sS) else sW - fixW ⟨sW, sS, sLo, sMo, sH, sC⟩ (l.drop i) (q + 1 - i)) := by
    unfold Hid roomOf; rw [List.length_drop]
    by_cases h : q + 1 = l.length
    · rw [if_pos (by omega), if_pos h]
    · rw [if_neg (by omega), if_neg h]
  have hpost : Hid (∀ e w', LinePost l i (q + 1) ⟨sW, sS, sLo, sMo, sH, sC⟩ w e w' = ∃ gv, e = .returned (.agg #[.int .i64 (i : Int), .int .i64 (((q + 1 : Nat)) : Int), .bool (!(pt l q).last), gv]) ∧
    w'.ownsRow w.heap.size 3 1 gv (fixG (l.drop i) (q + 1 - i)).toNat (ints (gapsTo (roomOf ⟨sW, sS, sLo, sMo, sH, sC⟩ (l.drop i) (q + 1 - i)) (fixG (l.drop i) (q + 1 - i)).toNat (fixG (l.drop i) (q + 1 - i)).toNat)) ∧ Below w.heap.size w w') := fun _ _ => rfl
  have hfacts : Hid (∀ w1, Below ((w.alloc (Obj.cells #[Value.int .i64 sW, Value.int .i64 sS, Value.int .i64 sLo, Value.int .i64 sMo, Value.int .i64 sH, Value.int .i64 sC] 24)).alloc (Obj.cells #[Value.int .i64 0, Value.int .i64 0, Value.bool false, Value.slice none 0 0] 35)).heap.size
      ((w.alloc (Obj.cells #[Value.int .i64 sW, Value.int .i64 sS, Value.int .i64 sLo, Value.int .i64 sMo, Value.int .i64 sH, Value.int .i64 sC] 24)).alloc (Obj.cells #[Value.int .i64 0, Value.int .i64 0, Value.bool false, Value.slice none 0 0] 35)) w1 →
      Blk w1 w.heap.size 24 #[Value.int .i64 sW, Value.int .i64 sS, Value.int .i64 sLo, Value.int .i64 sMo, Value.int .i64 sH, Value.int .i64 sC] ∧ Blk w1 (w.heap.size + 1) 35 #[Value.int .i64 0, Value.int .i64 0, Value.bool false, Value.slice none 0 0] ∧
      w1.cell? ⟨g, q * 4 + 3, none⟩ = some (.bool (pt l q).last) ∧ Below w.heap.size w w1 ∧ w.heap.size + 2 ≤ w1.heap.size) := by
    intro w1 hb
    refine ⟨?_, ?_, ?_, hb0.trans (hb.mono hb0.size), by have := hb.size; simpa using this⟩
    · exact ((Blk.new w _ _).alloc _).below hb (by simp; omega)
    · have := (Blk.new (w.alloc (Obj.cells #[Value.int .i64 sW, Value.int .i64 sS, Value.int .i64 sLo, Value.int .i64 sMo, Value.int .i64 sH, Value.int .i64 sC] 24)) 35 #[Value.int .i64 0, Value.int .i64 0, Value.bool false, Value.slice none 0 0]).below hb (by simp)
      simpa using this
    · exact (hb.cell (p := ⟨g, q * 4 + 3, none⟩) hP1.lt).trans HL3.out
  clear b0 b1 b2 b3 hP hP1 hok hs hb0 HL3
  generalize (pt l q).last = la at *
  generalize LinePost l i (q + 1) ⟨sW, sS, sLo, sMo, sH, sC⟩ w = Post at *
  generalize roomOf ⟨sW, sS, sLo, sMo, sH, sC⟩ (l.drop i) (q + 1 - i) = room at *
  generalize fixW ⟨sW, sS, sLo, sMo, sH, sC⟩ (l.drop i) (q + 1 - i) = X at *
  generalize fixG (l.drop i) (q + 1 - i) = G at *
  obtain ⟨G, rfl⟩ := Int.eq_ofNat_of_zero_le hy0
  rw [Int.toNat_natCast] at hpost
  generalize l.length = n at *
  have g2 : 0 ≤ (G : Int) * sS := Int.mul_nonneg hy0 (by omega)
  have g3 : (G : Int) * sS ≤ 256 * 65535 := Int.mul_le_mul hy1 (by omega) (by omega) (by omega)
  go_enter Try.func13, Try.ntmps13
  go_wp2_with fail
  refine HF.out.mono ?_; rintro e w1 ⟨rfl, hb1⟩
  obtain ⟨B0, B1, hc3, hbb, hsz⟩ := hfacts.out w1 hb1
  clear hb1 hfacts
  have x0 : w1.cell? ⟨w.heap.size, 0, none⟩ = some (.int .i64 sW) := B0.cell 0
  have x1 : w1.cell? ⟨w.heap.size, 1, none⟩ = some (.int .i64 sS) := B0.cell 1
  have HB0 := Lib.hid B0
  have HB1 := Lib.hid B1
  have HBB := Lib.hid hbb
  clear B0 B1 hbb
  have hz0 : w.heap.size < w1.heap.size := by omega
  have hz1 : w.heap.size + 1 < w1.heap.size := by omega
  have hr := hroom.out
  have hr0 : 0 ≤ room := by rw [hr]; split <;> omega
  have hr1 : room ≤ 700000 := by rw [hr]; split <;> omega
  clear hr
  go_upto_if 39 with (fail)
  go_cut [12] (fun v12 wx => v12 = .int .i64 room ∧ wx = w1.alloc (Obj.cells #[Value.int .i64 (i : Int), Value.int .i64 ((q : Int) + 1), Value.bool !la, Value.slice none 0 0] 35))
  case first =>
    have hr := hroom.out
    by_cases hend : q + 1 = n
    · have hE : ((q : Int) + 1 == (n : Int)) = true := by rw [beq_iff_eq]; omega
      rw [if_pos hend] at hr
      have HR := Lib.hid hr
      clear hr hend hr0 hr1
      go_wp2
      all_goals
        go_meet
        exact ⟨valInt (by rw [HR.out]; omega), rfl⟩
    · have hE : ((q : Int) + 1 == (n : Int)) = false := by rw [beq_eq_false_iff_ne]; omega
      rw [if_neg hend] at hr
      have HR := Lib.hid hr
      clear hr hend hr0 hr1
      go_wp2
      go_meet
      exact ⟨valInt HR.out.symm, rfl⟩
  case rest =>
    obtain ⟨rfl, rfl⟩ := hcut
    go_wp2
    go_loopw [13, 47] (fun _ vj wr => ∃ (j : Nat) (gv : Value), j ≤ G ∧ vj = .int .i64 j ∧ Blk wr w1.heap.size 35 #[Value.int .i64 (i : Int), Value.int .i64 ((q : Int) + 1), Value.bool !la, gv] ∧ wr.ownsRow (w1.heap.size + 1) 3 1 gv j (ints (gapsTo room G j)) ∧ Below w1.heap.size w1 wr) (fun _ j _ => G - (intOf j).toNat)
    case atStart => exact ⟨0, _, by omega, rfl, Blk.new _ _ _, ⟨rfl, .inl ⟨rfl, rfl⟩⟩, (Below.refl _ _).alloc (Nat.le_refl _) _⟩
    case round =>
      obtain ⟨j, gv, hj, rfl, hB, hown, hb⟩ := hrel
      by_cases hlt : j < G
      · have m0 : 0 ≤ (j : Int) * room := Int.mul_nonneg (by omega) hr0
        have m1 : (j : Int) * room ≤ 256 * 700000 := Int.mul_le_mul (by omega) hr1 hr0 (by omega)
        have m2 : 0 ≤ ((j : Int) + 1) * room := Int.mul_nonneg (by omega) hr0
        have m3 : ((j : Int) + 1) * room ≤ 256 * 700000 := Int.mul_le_mul (by omega) hr1 hr0 (by omega)
        have d0 : 0 ≤ (j : Int) * room / (G : Int) := Int.ediv_nonneg m0 (by omega)
        have d1 : (j : Int) * room / (G : Int) ≤ 256 * 700000 := Int.le_trans (Int.ediv_le_self _ m0) m1
        have d2 : 0 ≤ ((j : Int) + 1) * room / (G : Int) := Int.ediv_nonneg m2 (by omega)
        have d3 : ((j : Int) + 1) * room / (G : Int) ≤ 256 * 700000 := Int.le_trans (Int.ediv_le_self _ m2) m3
        have hcell : wr.cell? ⟨w1.heap.size, 3, none⟩ = some gv := hB.cell 3
        have hfr := hB.frozen 3
        have hbl : w1.heap.size < wr.heap.size := hB.lt
        have HB := Lib.hid hB
        have HO := Lib.hid hown
        have HBW := Lib.hid hb
        clear hB hown hb
        go_wp2
        have hG0 : ¬ ((G : Int) = 0) := by omega
        have hG1 : 1 ≤ (G : Int) := by omega
        have hGn : ¬ G = 0 := by omega
        have e1 : IntKind.i64.wrap ((j : Int) + 1) = (j : Int) + 1 := by rw [IntKind.wrap_i64]; omega
        have e2 : IntKind.i64.wrap (((j : Int) + 1) * room) = ((j : Int) + 1) * room := by rw [IntKind.wrap_i64]; omega
        have e3 : IntKind.i64.wrap ((j : Int) * room) = (j : Int) * room := by rw [IntKind.wrap_i64]; omega
        have e4 : (((j : Int) + 1) * room).tdiv (G : Int) = ((j : Int) + 1) * room / (G : Int) := Int.tdiv_eq_ediv_of_nonneg m2
        have e5 : ((j : Int) * room).tdiv (G : Int) = (j : Int) * room / (G : Int) := Int.tdiv_eq_ediv_of_nonneg m0
        have e6 : IntKind.i64.wrap (((j : Int) + 1) * room / (G : Int)) = ((j : Int) + 1) * room / (G : Int) := by rw [IntKind.wrap_i64]; omega
        have e7 : IntKind.i64.wrap ((j : Int) * room / (G : Int)) = (j : Int) * room / (G : Int) := by rw [IntKind.wrap_i64]; omega
        have e8 : IntKind.i64.wrap (((j : Int) + 1) * room / (G : Int) - (j : Int) * room / (G : Int)) = gapAt room G j := by unfold gapAt; rw [IntKind.wrap_i64]; omega
        clear m0 m1 m2 m3 d0 d1 d2 d3
        have hbn : w1.heap.size ≠ wr.heap.size := by omega
        have hne : some w1.heap.size ≠ gv.ownBlock := fun e => by have := (own_lt HO.out _ e.symm).1; omega
        go_region_law ((refine step_push_form eInt (by rfl) (.tmp 51) (.tmp 64) (by rfl) (w1.heap.size + 1) gv j _ (by rfl) (HO.out.drew.alloc _) ⟨wr.heap.size, 0, none⟩ 1 _ (by rfl) (new_one _ _ _) (by rfl) (by omega) (by omega) (by simp; omega) ?_; intro g2 cap2 w2 hown2 hg2 hk2; have f1 : w2.cell? ⟨w1.heap.size, 3, none⟩ = some gv := (grown_cell hg2 (p := ⟨w1.heap.size, 3, none⟩) (by simp; omega) hne).trans ((World.cell?_alloc_past _ _ _ hbl).trans hcell); have f2 : w2.frozen? ⟨w1.heap.size, 3, none⟩ = false := (grown_frozen hg2 (p := ⟨w1.heap.size, 3, none⟩) (by simp; omega) hne).trans ((World.frozen?_alloc_past _ _ _ hbl).trans hfr)))
        all_goals
          go_wp2
          go_roundw
          case rel => exact line_in hlt HB.out HO.out HBW.out hne hown2 hg2
          case measure => simp [intOf]; omega
      · obtain rfl : j = G := by omega
        obtain ⟨Ag, cg, rfl⟩ := own_form hown
        have y0 : wr.cell? ⟨w1.heap.size, 0, none⟩ = some (.int .i64 (i : Int)) := hB.cell 0
        have y1 : wr.cell? ⟨w1.heap.size, 1, none⟩ = some (.int .i64 ((q : Int) + 1)) := hB.cell 1
        have y2 : wr.cell? ⟨w1.heap.size, 2, none⟩ = some (.bool !la) := hB.cell 2
        have y3 : wr.cell? ⟨w1.heap.size, 3, none⟩ = some (.slice Ag j cg) := hB.cell 3
        have HR1 := Lib.hid (HB1.out.below hb hz1)
        have f0 := HR1.out.frozen 0
        have f1 := HR1.out.frozen 1
        have f2 := HR1.out.frozen 2
        have f3 := HR1.out.frozen 3
        have z0 : wr.cell? ⟨w.heap.size + 1, 0, none⟩ = some (.int .i64 0) := HR1.out.cell 0
        have z1 : wr.cell? ⟨w.heap.size + 1, 1, none⟩ = some (.int .i64 0) := HR1.out.cell 1
        have z2 : wr.cell? ⟨w.heap.size + 1, 2, none⟩ = some (.bool false) := HR1.out.cell 2
        have z3 : wr.cell? ⟨w.heap.size + 1, 3, none⟩ = some (.slice none 0 0) := HR1.out.cell 3
        have HO := Lib.hid hown
        have HBW := Lib.hid hb
        clear hB hown hb
        go_wp2
        refine bodyPost_ret (v := .agg #[.int .i64 (i : Int), .int .i64 ((q : Int) + 1), .bool !la, .slice Ag j cg]) (by simp [results, Try.results13, go_sem, z0, z1, z2, z3]) rfl ?_
        rw [hpost.out]
        refine ⟨_, rfl, ?_, ?_⟩
        · have h1 := own_setCell HO.out (p := ⟨w.heap.size + 1, 0, none⟩) (.inl (by simp; omega)) (.int .i64 (i : Int))
          have h2 := own_setCell h1 (p := ⟨w.heap.size + 1, 1, none⟩) (.inl (by simp; omega)) (.int .i64 ((q : Int) + 1))
          have h3 := own_setCell h2 (p := ⟨w.heap.size + 1, 2, none⟩) (.inl (by simp; omega)) (.bool !la)
          have h4 := own_setCell h3 (p := ⟨w.heap.size + 1, 3, none⟩) (.inl (by simp; omega)) (.slice Ag j cg)
          exact own_base h4 (by omega)
        · have hb1 := HBB.out.trans (HBW.out.mono (by omega))
          exact (((hb1.setCell (p := ⟨w.heap.size + 1, 0, none⟩) (by simp) _).setCell (p := ⟨w.heap.size + 1, 1, none⟩) (by simp) _).setCell (p := ⟨w.heap.size + 1, 2, none⟩) (by simp) _).setCell (p := ⟨w.heap.size + 1, 3, none⟩) (by simp) _
end Go.Proofs.Ytajmdgkchleipaa
