/- The walk of FoldLeavesRemain. -/
import Derived.Test.YtjcijogdcafloaaDoorPlaceOnce
import Derived.Test.YtjcijogdcafloaaDoorSizePile
namespace Go.Proofs.YtjcijogdcafloaaDoor
open Go.RowKit
theorem pre_len {ps : List (List Leaf)} {k : Nat} (h : k < ps.length) (i : Nat) : ((ps.take k).flatten ++ (ps[k]).take i).length ≤ ps.flatten.length := by
  have e : ps.flatten = (ps.take k).flatten ++ (ps[k] ++ (ps.drop (k+1)).flatten) := by
    have h1 : ps = ps.take k ++ (ps[k] :: ps.drop (k+1)) := by rw [← List.drop_eq_getElem_cons h, List.take_append_drop]
    have h2 := congrArg List.flatten h1
    simpa only [List.flatten_append, List.flatten_cons] using h2
  rw [e]; simp only [List.length_append, List.length_take]; omega
theorem pre_succ {ps : List (List Leaf)} {k : Nat} (h : k < ps.length) : (ps.take (k + 1)).flatten = (ps.take k).flatten ++ ps[k] := by
  rw [List.take_succ_eq_append_getElem h]; simp only [List.flatten_append, List.flatten_cons, List.flatten_nil, List.append_nil]
def ixL (C : Nat) (x : Leaf) : Nat := x.r * C + x.c
set_option maxRecDepth 100000 in
set_option maxHeartbeats 8000000 in
theorem remain_any (C R : Int) (v : Value) (l : List Step) (k : Int) (w : World) (hI : Sv w v l) :
    Calls Tryd.prog 5 #[.agg #[.int .i64 C, .int .i64 R, v], .int .i64 k] w fun e w' => e = .returned (.bool true) ∧ Below w.heap.size w w' := by
  have HI := Lib.hid hI
  obtain ⟨Av, cv, ev⟩ := SlM.form HI.out
  have HF := Lib.hid folds_any
  have hb0 := Lib.hid ((Below.refl w.heap.size w).alloc (Nat.le_refl _) (Obj.cells #[.int .i64 C, .int .i64 R, v] 24))
  have hbl0 := Lib.hid (Blk.new w 24 #[.int .i64 C, .int .i64 R, v])
  by_cases hz : afterZ C R l k = 0
  · have hSz : Hid (∀ w', Below w.heap.size w w' → Calls Tryd.prog 13 #[.agg #[.int .i64 C, .int .i64 R, v], .int .i64 k] w' fun e w'' => e = .returned (.tuple #[.int .i64 ((foldAll (flatS C.toNat R.toNat) (l.take k.toNat)).cols : Int), .int .i64 ((foldAll (flatS C.toNat R.toNat) (l.take k.toNat)).rows : Int), .int .i64 0]) ∧ Below w'.heap.size w' w'') := fun w' hb => (size_any C R k v l w' (SlM.later HI.out hb)).mono fun e w'' hp => ⟨hp.1 hz, hp.2.2⟩
    obtain ⟨c, r, j, rfl, rfl, rfl, hg, hj⟩ := afterZ_zero hz
    simp only [Int.toNat_natCast] at hSz
    have hin := every_in c r (l.take j)
    have hok := okSteps_take hg.ok j
    have hone := fun i (hi : i < c * r) => leaves_once hok hi
    have hlt := leaves_length hok
    have hHP : Hid (∀ (w' : World) (x y : Nat), Below w.heap.size w w' → x < (foldAll (flatS c r) (l.take j)).cols → y < (foldAll (flatS c r) (l.take j)).rows → Calls Tryd.prog 14 #[.agg #[.int .i64 (c : Int), .int .i64 (r : Int), v], .int .i64 (j : Int), .int .i64 (x : Int), .int .i64 (y : Int)] w' (PilePost ((foldAll (flatS c r) (l.take j)).P x y) w')) := fun w' x y hb hx hy => by
      obtain ⟨m1, m2, m3⟩ := pile_max hg j hx hy
      exact place_pile c r j v l x y w' (SlM.later HI.out hb) _ m2 m3 hx hy m1 fun w'' hb' => after_good hg (SlM.later HI.out (hb.trans (hb'.mono hb.size))) hj
    have hsm := small_all (C := c) (R := r) hok ⟨hg.c1, Nat.le_refl _, hg.r1, Nat.le_refl _⟩
    obtain ⟨_, hsc, _, hsr⟩ := hsm
    have hpl : ∀ x y, x < (foldAll (flatS c r) (l.take j)).cols → y < (foldAll (flatS c r) (l.take j)).rows → ∃ h : y * (foldAll (flatS c r) (l.take j)).cols + x < (pilesOf (foldAll (flatS c r) (l.take j))).length, (pilesOf (foldAll (flatS c r) (l.take j)))[y * (foldAll (flatS c r) (l.take j)).cols + x] = (foldAll (flatS c r) (l.take j)).P x y := fun x y hx hy => by
      have h1 := pilesOf_get (foldAll (flatS c r) (l.take j)) hx hy
      obtain ⟨h2, h3⟩ := List.getElem?_eq_some_iff.1 h1
      exact ⟨h2, h3⟩
    have hpn := pilesOf_length (foldAll (flatS c r) (l.take j))
    have hcr := hg.cr
    have hpos : 0 < c * r := Nat.mul_pos hg.c1 hg.r1
    have hc1 := hg.c1
    have hc8 := hg.c8
    have hr8 := hg.r8
    have hn8 := hg.n8
    generalize foldAll (flatS c r) (l.take j) = X at *
    generalize hps : pilesOf X = ps at *
    clear hps
    have HHP := hHP
    have HPL := Lib.hid hpl
    have HIN := Lib.hid hin
    have HONE := Lib.hid hone
    have HLT := Lib.hid hlt
    have HPN := Lib.hid hpn
    have hXc : X.cols ≤ 8 := by omega
    have hXr : X.rows ≤ 8 := by omega
    generalize hnc : X.cols = nc at *
    generalize hnr : X.rows = nr at *
    have HNc := Lib.hid hnc
    have HNr := Lib.hid hnr
    have hmul : (c : Int) * (r : Int) = ((c * r : Nat) : Int) := by simp
    have hrow : Hid (∀ a b, a < c → b < r → b * c + a < c * r) := fun a b ha hb => by rw [Nat.mul_comm c r]; exact place_lt ha hb
    have hcr2 : c * r ≤ 32 := by rw [Nat.mul_comm]; exact hcr
    have HRC : Hid (r * c = c * r) := Nat.mul_comm r c
    generalize hm : c * r = M at *
    have HMm := Lib.hid hm
    generalize l.length = n at *
    clear hI hz hg hok hm hHP hpl hin hone hlt hpn hnc hnr hcr
    subst ev
    go_enter Tryd.func5, Tryd.ntmps5
    go_wp2_with fail
    refine (HF.out _).mono ?_; rintro e w1 ⟨rfl, hb1⟩
    have hx0 := hbl0.out.below hb1 hbl0.out.lt
    have HB1 := Lib.hid (hb0.out.trans (hb1.mono hb0.out.size))
    have c0 : w1.cell? ⟨w.heap.size, 0, none⟩ = some (.int .i64 (c : Int)) := hx0.cell 0
    have c1 : w1.cell? ⟨w.heap.size, 1, none⟩ = some (.int .i64 (r : Int)) := hx0.cell 1
    have c2 : w1.cell? ⟨w.heap.size, 2, none⟩ = some (.slice Av n cv) := hx0.cell 2
    have HX0 := Lib.hid hx0
    clear hb1 hx0
    go_wp2_with fail
    refine (hSz.out _ HB1.out).mono ?_; rintro e w2 ⟨rfl, hb2⟩
    have HX2 := Lib.hid (HX0.out.below hb2 HX0.out.lt)
    have HB2 := Lib.hid (HB1.out.trans (hb2.mono HB1.out.size))
    clear hb2 c0 c1 c2
    have c0 : w2.cell? ⟨w.heap.size, 0, none⟩ = some (.int .i64 (c : Int)) := HX2.out.cell 0
    have c1 : w2.cell? ⟨w.heap.size, 1, none⟩ = some (.int .i64 (r : Int)) := HX2.out.cell 1
    have hmk := run_make1 eInt rfl M (M : Int) rfl (by omega) (by omega)
    have HIR := Lib.hid (IRow.zeros w2 3 M)
    have hHeap := Lib.hid HX2.out.lt
    go_wp2
    clear hmk c0 c1
    go_loopw [39] (fun vy wr => ∃ y : Nat, y ≤ nr ∧ vy = .int .i64 y ∧ IRow wr w2.heap.size (cntRow M (ixL c) (ps.take (y * nc)).flatten) ∧ Below w2.heap.size w2 wr) (fun y _ => nr - (intOf y).toNat)
    case atStart => exact ⟨0, by omega, rfl, by rw [Nat.zero_mul, List.take_zero, List.flatten_nil, cntRow_nil]; exact HIR.out, (Below.refl _ _).alloc (Nat.le_refl _) _⟩
    case round =>
      obtain ⟨y, hy, rfl, hir, hb⟩ := hrel
      by_cases hlty : y < nr
      · have HIr := Lib.hid hir
        have HB := Lib.hid hb
        clear hir hb
        go_wp2
        obtain ⟨wo, rfl⟩ : ∃ wo : World, wo = wr := ⟨_, rfl⟩
        go_loopw [43] (fun vx wr => ∃ x : Nat, x ≤ nc ∧ vx = .int .i64 x ∧ IRow wr w2.heap.size (cntRow M (ixL c) (ps.take (y * nc + x)).flatten) ∧ Below w2.heap.size w2 wr) (fun x _ => nc - (intOf x).toNat)
        case atStart => exact ⟨0, by omega, rfl, HIr.out, HB.out⟩
        case round =>
          obtain ⟨x, hx, rfl, hir, hb⟩ := hrel
          by_cases hltx : x < nc
          · have x0 : wr.cell? ⟨w.heap.size, 0, none⟩ = some (.int .i64 (c : Int)) := (HX2.out.below hb HX2.out.lt).cell 0
            have x1 : wr.cell? ⟨w.heap.size, 1, none⟩ = some (.int .i64 (r : Int)) := (HX2.out.below hb HX2.out.lt).cell 1
            have x2 : wr.cell? ⟨w.heap.size, 2, none⟩ = some (.slice Av n cv) := (HX2.out.below hb HX2.out.lt).cell 2
            have hbw := Lib.hid (HB2.out.trans (hb.mono HB2.out.size))
            have HIr2 := Lib.hid hir
            have HBx := Lib.hid hb
            clear hir hb
            go_wp2_with fail
            refine (HHP.out _ x y hbw.out hltx hlty).mono ?_; rintro e w3 ⟨vq, rfl, hlv, hb3⟩
            obtain ⟨hk, hq⟩ := HPL.out x y hltx hlty
            have HSuc : Hid ((ps.take (y * nc + (x + 1))).flatten = (ps.take (y * nc + x)).flatten ++ X.P x y) := by
              unfold Hid; rw [← Nat.add_assoc, pre_succ hk, hq]
            have HLen : Hid (∀ i, ((ps.take (y * nc + x)).flatten ++ (X.P x y).take i).length ≤ 32) := fun i => by
              have h1 := pre_len hk i
              rw [hq, HLT.out, HRC.out] at h1
              omega
            have HInq : Hid (∀ p ∈ X.P x y, p.c < c ∧ p.r < r) := HIN.out x y (by rw [HNc.out]; exact hltx) (by rw [HNr.out]; exact hlty)
            have hgw := HIr2.out.lt
            have hs : SlM w3 (fun b => w2.heap.size < b) vq (X.P x y).length (lcells (X.P x y)) := SlM.mono hlv fun b _ (h : _ ≤ b) => by omega
            have hi3 := HIr2.out.below hb3 hgw
            have hb4 := HBx.out.trans (hb3.mono HBx.out.size)
            clear hb3 hlv hk hq x0 x1 x2
            generalize (ps.take (y * nc + x)).flatten = L at *
            generalize X.P x y = q at *
            obtain ⟨Aq, cq, hvq⟩ := SlM.form hs
            generalize hqn : q.length = nq at *
            have HQn := Lib.hid hqn
            subst hvq
            have HS := Lib.hid hs
            have HI3 := Lib.hid hi3
            have HB4 := Lib.hid hb4
            have hnq : nq ≤ 32 := by have h1 := HLen.out nq; rw [List.length_append, List.length_take, hqn] at h1; omega
            clear hs hi3 hb4 hqn
            go_wp2
            obtain ⟨wp, rfl⟩ : ∃ wp : World, wp = w3 := ⟨_, rfl⟩
            go_loopw [58] (fun vi wr => ∃ i : Nat, i ≤ nq ∧ vi = .int .i64 i ∧ IRow wr w2.heap.size (cntRow M (ixL c) (L ++ q.take i)) ∧ Below w2.heap.size w2 wr ∧ SlM wr (fun b => w2.heap.size < b) (.slice Aq nq cq) nq (lcells q)) (fun i _ => nq - (intOf i).toNat)
            case atStart => exact ⟨0, by omega, rfl, by rw [List.take_zero, List.append_nil]; exact HI3.out, HB4.out, HS.out⟩
            case round =>
              obtain ⟨i, hi, rfl, hir, hb, hs⟩ := hrel
              by_cases hlti : i < nq
              · have hlv : Lv wr (fun b => w2.heap.size < b) (.slice Aq nq cq) q := by unfold Lv; rw [HQn.out]; exact hs
                obtain ⟨bq, oq, capq, hv, hbk, hbl, hcap, _, hc4⟩ := hlv.cells4 (by rw [HQn.out]; omega)
                injection hv with e1 e2 e3
                clear e2
                subst e1 e3
                obtain ⟨a0, a1, a2, a3⟩ := hc4 i (by rw [HQn.out]; exact hlti)
                have hmem : lf q i ∈ q := by rw [lf_eq q (by rw [HQn.out]; exact hlti)]; exact List.getElem_mem _
                obtain ⟨i1, i2⟩ := HInq.out _ hmem
                have HTk : Hid (q.take (i + 1) = q.take i ++ [lf q i]) := by
                  unfold Hid; rw [List.take_succ_eq_append_getElem (by rw [HQn.out]; exact hlti), lf_eq q (by rw [HQn.out]; exact hlti)]
                have hro := hrow.out _ _ i1 i2
                have hIdxLt : ixL c (lf q i) < M := hro
                have HPi : Hid (ixL c (lf q i) = (lf q i).r * c + (lf q i).c) := rfl
                have HSn := Lib.hid (cntRow_snoc M (ixL c) (L ++ q.take i) (lf q i) hIdxLt)
                have hcnt : 0 ≤ (cntRow M (ixL c) (L ++ q.take i)).getD (ixL c (lf q i)) 0 ∧ (cntRow M (ixL c) (L ++ q.take i)).getD (ixL c (lf q i)) 0 ≤ 64 := by
                  rw [cntRow_at M _ _ hIdxLt]
                  have h1 := List.countP_le_length (p := fun p => ixL c p == ixL c (lf q i)) (l := L ++ q.take i)
                  have h2 := HLen.out i
                  omega
                have hcl : (cntRow M (ixL c) (L ++ q.take i)).length = M := cntRow_length _ _ _
                have hkc := hir.at_ (i := ixL c (lf q i)) (by rw [hcl]; exact hIdxLt)
                have hkf := hir.free_ (i := ixL c (lf q i)) (by rw [hcl]; exact hIdxLt)
                have HIrr := Lib.hid hir
                have hgs : w2.heap.size < wr.heap.size := hir.lt
                have HS2 := Lib.hid hs
                clear hir hc4 hlv hs
                generalize hkk : ixL c (lf q i) = kk at *
                generalize lf q i = p at *
                generalize cntRow M (ixL c) (L ++ q.take i) = row at *
                generalize row.getD kk 0 = cv0 at *
                obtain ⟨pc, pr, px, py⟩ := p
                dsimp only at a0 a1 a2 a3 i1 i2 hro HPi
                have hmul2 : (pr : Int) * (c : Int) = ((pr * c : Nat) : Int) := by simp
                generalize hrc : pr * c = rc at *
                have HB := Lib.hid hb
                have x0 : wr.cell? ⟨w.heap.size, 0, none⟩ = some (.int .i64 (c : Int)) := (HX2.out.below hb HX2.out.lt).cell 0
                have x1 : wr.cell? ⟨w.heap.size, 1, none⟩ = some (.int .i64 (r : Int)) := (HX2.out.below hb HX2.out.lt).cell 1
                have hz2 : w.heap.size < wr.heap.size := by have := HX2.out.lt; omega
                have q1 : decide ((pc : Int) < 0) = false := by simp
                have q2 : decide ((pr : Int) < 0) = false := by simp
                have q3 : decide ((c : Int) ≤ (pc : Int)) = false := by simp; omega
                have q4 : decide ((r : Int) ≤ (pr : Int)) = false := by simp; omega
                have hsum : rc + pc = kk := HPi.out.symm
                have hsumI : (rc : Int) + (pc : Int) = (kk : Int) := by omega
                obtain ⟨cn0, cn1⟩ := hcnt
                clear hb hrc hkk
                go_wp2
                go_roundw
                case rel =>
                  refine ⟨i + 1, by omega, by go_num, ?_, ?_, ?_⟩
                  · rw [HTk.out, ← List.append_assoc, HSn.out]
                    exact IRow.alloc (IRow.put HIrr.out (k := kk) (by rw [hcl]; exact hIdxLt) (cv0 + 1)) _
                  · exact (HB.out.setCell (p := ⟨w2.heap.size, kk, none⟩) (Nat.le_refl _) _).alloc (by have := HB.out.size; simpa using this) _
                  · exact SlM.alloc (SlM.far HS2.out (p := ⟨w2.heap.size, kk, none⟩) (by simp) _) _
                case measure => simp [intOf]; omega
              · obtain rfl : i = nq := by omega
                have hir2 : IRow wr w2.heap.size (cntRow M (ixL c) (ps.take (y * nc + (x + 1))).flatten) := by
                  rw [HSuc.out]; rw [List.take_of_length_le (by rw [HQn.out]; exact Nat.le_refl _)] at hir; exact hir
                have HIr4 := Lib.hid hir2
                have HB5 := Lib.hid hb
                clear hir hir2 hb hs
                go_wp2
                go_roundw
                case rel => exact ⟨x + 1, by omega, by go_num, HIr4.out, HB5.out⟩
                case measure => simp [intOf]; omega
          · obtain rfl : x = nc := by omega
            go_wp2
            go_roundw
            case rel => exact ⟨y + 1, by omega, by go_num, by rw [Nat.succ_mul]; exact hir, hb⟩
            case measure => simp [intOf]; omega
      · obtain rfl : y = nr := by omega
        have hones : ∀ i, i < M → wr.cell? ⟨w2.heap.size, i, none⟩ = some (.int .i64 1) := fun i hi => by
          have h1 := hir.at_ (i := i) (by rw [cntRow_length]; exact hi)
          have h2 : ps.flatten.countP (fun p => ixL c p == i) = 1 := HONE.out i hi
          rw [cntRow_at _ _ _ hi, List.take_of_length_le (by rw [HPN.out]; exact Nat.le_refl _), h2] at h1
          exact h1
        have HOn := Lib.hid hones
        have HB := Lib.hid hb
        clear hir hb hones
        go_wp2_with (go_at_call 11; refine (contf_b _ M M _ (by omega) HOn.out).mono ?_; rintro e w' ⟨rfl, rfl⟩)
        go_ret
        exact ⟨rfl, HB2.out.trans (HB.out.mono (by have := HB2.out.size; omega))⟩
  · have hSz : Hid (∀ w', Below w.heap.size w w' → Calls Tryd.prog 13 #[.agg #[.int .i64 C, .int .i64 R, v], .int .i64 k] w' fun e w'' => e = .returned (.tuple #[.int .i64 0, .int .i64 0, .int .i64 (afterZ C R l k)]) ∧ Below w'.heap.size w' w'') := fun w' hb => (size_any C R k v l w' (SlM.later HI.out hb)).mono fun e w'' hp => ⟨hp.2.1 hz, hp.2.2⟩
    have hz1 : (afterZ C R l k != 0) = true := by simpa using hz
    generalize afterZ C R l k = z at *
    generalize l.length = n at *
    clear hI hz
    subst ev
    go_enter Tryd.func5, Tryd.ntmps5
    go_wp2_with fail
    refine (HF.out _).mono ?_; rintro e w1 ⟨rfl, hb1⟩
    have hx0 := hbl0.out.below hb1 hbl0.out.lt
    have HB1 := Lib.hid (hb0.out.trans (hb1.mono hb0.out.size))
    have c0 : w1.cell? ⟨w.heap.size, 0, none⟩ = some (.int .i64 C) := hx0.cell 0
    have c1 : w1.cell? ⟨w.heap.size, 1, none⟩ = some (.int .i64 R) := hx0.cell 1
    have c2 : w1.cell? ⟨w.heap.size, 2, none⟩ = some (.slice Av n cv) := hx0.cell 2
    clear hb1 hx0
    go_wp2_with fail
    refine (hSz.out _ HB1.out).mono ?_; rintro e w2 ⟨rfl, hb2⟩
    have HB2 := Lib.hid (HB1.out.trans (hb2.mono HB1.out.size))
    clear hb2 c0 c1 c2
    go_wp2
    go_ret
    exact ⟨rfl, HB2.out⟩
end Go.Proofs.YtjcijogdcafloaaDoor
