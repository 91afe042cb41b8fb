/- The walk of flat: the sheet before all folds. -/
import Derived.Test.YtjmanooedgfbaaaDoorPB
namespace Go.Proofs.YtjmanooedgfbaaaDoor
open Go.RowKit
/-- What flat has in memory: its argument's box, its result's block, the sheet that it makes. -/
structure FlatMem (C R : Nat) (A : Option Addr) (n c : Nat) (w wr : World) (v : Value) (vals : List Value) (ps : List (List Leaf)) : Prop where
  b0 : Blk wr w.heap.size 24 #[.int .i64 (C : Int), .int .i64 (R : Int), .slice A n c]
  b1 : Blk wr (w.heap.size + 1) 67 #[.int .i64 0, .int .i64 0, .slice none 0 0]
  b2 : Blk wr (w.heap.size + 2) 67 #[.int .i64 (C : Int), .int .i64 (R : Int), v]
  pb : PB (w.heap.size + 3) wr v vals ps
  be : Below w.heap.size w wr
theorem FlatMem.push {C R : Nat} {A : Option Addr} {n c : Nat} {w wr w1 : World} {v v1 u : Value} {vals : List Value} {ps : List (List Leaf)} {p : List Leaf} {o1 o2 : Obj} (h : FlatMem C R A n c w wr v vals ps)
    (hu : Lv (wr.alloc o1) (fun b => wr.heap.size ≤ b) u p) (hown : w1.ownsRow (w.heap.size + 3) 58 1 v1 (vals.length + 1) (vals ++ [u])) (hg : ((wr.alloc o1).alloc o2).grownBy w1 v.ownBlock)
    (hk : v1.ownBlock = v.ownBlock ∨ v1.ownBlock = some ((wr.alloc o1).alloc o2).heap.size) : 
    w1.cell? ⟨w.heap.size + 2, 2, none⟩ = some v ∧ w1.frozen? ⟨w.heap.size + 2, 2, none⟩ = false ∧ w.heap.size + 2 < w1.heap.size ∧ FlatMem C R A n c w (w1.setCell ⟨w.heap.size + 2, 2, none⟩ v1) v1 (vals ++ [u]) (ps ++ [p]) := by
  obtain ⟨b0, b1, b2, pb, be⟩ := h
  have hne : ∀ b, b < w.heap.size + 3 → some b ≠ v.ownBlock := fun b hb e => by have := (own_lt pb.own b e.symm).1; omega
  have h2 : Blk w1 (w.heap.size + 2) 67 #[.int .i64 (C : Int), .int .i64 (R : Int), v] := ((b2.alloc o1).alloc o2).grown hg (hne _ (by omega))
  have hb : Below wr.heap.size wr (wr.alloc o1) := (Below.refl _ _).alloc (Nat.le_refl _) _
  refine ⟨h2.cell 2, h2.frozen 2, h2.lt, ?_, ?_, ?_, ?_, ?_⟩
  · exact (((b0.alloc o1).alloc o2).grown hg (hne _ (by omega))).far (by simp) _
  · exact (((b1.alloc o1).alloc o2).grown hg (hne _ (by omega))).far (by simp) _
  · have := h2.put 2 v1; simpa using this
  · exact (pb.push hb b2.lt hu hown hg hk).far (p := ⟨w.heap.size + 2, 2, none⟩) (by simp) v1
  · exact (((be.alloc be.size o1).alloc (le_alloc be.size _) o2).grown hg (le_alloc (le_alloc be.size _) _) fun k hk => by have := (own_lt pb.own k hk).1; omega).setCell (p := ⟨w.heap.size + 2, 2, none⟩) (by simp) _
set_option maxHeartbeats 4000000 in
theorem flat_any (C R : Nat) (A : Option Addr) (n c : Nat) (w : World) (hC : C ≤ 8) (hR : R ≤ 8) :
    Calls Tryd.prog 20 #[.agg #[.int .i64 (C : Int), .int .i64 (R : Int), .slice A n c]] w (SheetPost (flatS C R) w) := by
  have HP : Hid (∀ e w', SheetPost (flatS C R) w e w' = ∃ v vals, e = .returned (.agg #[.int .i64 (C : Int), .int .i64 (R : Int), v]) ∧ Pl (fun b => w.heap.size ≤ b) w' v vals (pilesOf (flatS C R)) ∧ Below w.heap.size w w') := fun _ _ => rfl
  generalize SheetPost (flatS C R) w = Post at *
  go_enter Tryd.func20, Tryd.ntmps20
  go_wp2
  go_loopw [13] (fun vr wr => ∃ (r : Nat) (v : Value) (vals : List Value), r ≤ R ∧ vr = .int .i64 r ∧ FlatMem C R A n c w wr v vals (rowsTo (flatS C R) r)) (fun r _ => R - (intOf r).toNat)
  case atStart =>
    refine ⟨0, .slice none 0 0, [], by omega, rfl, ?_, ?_, ?_, PB.nil _ _, ?_⟩
    · exact ((Blk.new w _ _).alloc _).alloc _
    · have := (Blk.new (w.alloc (.cells #[.int .i64 (C : Int), .int .i64 (R : Int), .slice A n c] 24)) 67 #[.int .i64 0, .int .i64 0, .slice none 0 0]).alloc (.cells #[.int .i64 (C : Int), .int .i64 (R : Int), .slice none 0 0] 67)
      simpa using this
    · have := Blk.new ((w.alloc (.cells #[.int .i64 (C : Int), .int .i64 (R : Int), .slice A n c] 24)).alloc (.cells #[.int .i64 0, .int .i64 0, .slice none 0 0] 67)) 67 #[.int .i64 (C : Int), .int .i64 (R : Int), .slice none 0 0]
      simpa using this
    · exact (((Below.refl _ _).alloc (Nat.le_refl _) _).alloc (by simp) _).alloc (by simp; omega) _
  case round =>
    obtain ⟨r, v, vals, hr, rfl, hm⟩ := hrel
    by_cases hlt : r < R
    · have x0 : wr.cell? ⟨w.heap.size, 0, none⟩ = some (.int .i64 (C : Int)) := hm.b0.cell 0
      have HM := Lib.hid hm
      clear hm
      go_wp2
      obtain ⟨wo, rfl⟩ : ∃ wo : World, wo = wr := ⟨_, rfl⟩
      clear x0
      go_loopw [18] (fun vc wr => ∃ (k : Nat) (v : Value) (vals : List Value), k ≤ C ∧ vc = .int .i64 k ∧ FlatMem C R A n c w wr v vals (colsTo (flatS C R) r k)) (fun k _ => C - (intOf k).toNat)
      case atStart => exact ⟨0, v, vals, by omega, rfl, by rw [colsTo_zero]; exact HM.out⟩
      case round =>
        obtain ⟨k, v, vals, hk, rfl, hm⟩ := hrel
        by_cases hltk : k < C
        · have x2 : wr.cell? ⟨w.heap.size + 2, 2, none⟩ = some v := hm.b2.cell 2
          have HM := Lib.hid hm
          have hvl : vals.length ≤ 1000 := by
            rw [hm.pb.len, colsTo_length]
            have h1 : r * (flatS C R).cols ≤ 8 * 8 := Nat.mul_le_mul (by omega) hC
            omega
          have hown := Lib.hid hm.pb.own
          have hle : w.heap.size + 3 ≤ wr.heap.size := by have := hm.b2.lt; omega
          have hu : Hid (Lv (wr.alloc (Obj.cells #[.int .i64 (k : Int), .int .i64 (r : Int), .bool false, .bool false] 63)) (fun b => wr.heap.size ≤ b) (.slice (some ⟨wr.heap.size, 0, none⟩) 1 1) [⟨k, r, false, false⟩]) := by
            refine ⟨_, 1, rfl, Nat.le_refl _, by unfold maxLen; omega, fun _ => ⟨wr.heap.size, 0, rfl, Nat.le_refl _, by simp, fun i u hu => ?_⟩⟩
            have := news_new wr 63 (lcell ⟨k, r, false, false⟩) _ rfl i u (by simpa [lcells] using hu)
            rw [add_plain] at this; exact this
          clear hm
          go_wp2_with (at_builtin; go_must (refine wpList_push eSl rfl (.tmp 22) (.tmp 27) rfl (w.heap.size + 3) v vals.length vals rfl ((hown.out.alloc _).alloc _) ⟨wr.heap.size + 1, 0, none⟩ 1 (.slice (some ⟨wr.heap.size, 0, none⟩) 1 1) rfl (by simp) rfl (by omega) (by omega) (by simp; omega) ?_; intro v1 w1 hown1 hg1 hk1; obtain ⟨g', cap', rfl⟩ := ownsRow_succ hown1; obtain ⟨y1, y2, y3, hm1⟩ := HM.out.push hu.out hown1 hg1 hk1; have HM1 := Lib.hid hm1; clear hown1 hg1 hk1 hm1))
          go_roundw
          case rel => exact ⟨k + 1, _, _, by omega, by go_num, by rw [colsTo_succ]; exact HM1.out⟩
          case measure => simp [intOf]; omega
        · obtain rfl : k = C := by omega
          have HM := Lib.hid hm
          clear hm
          go_wp2
          go_roundw
          case rel => exact ⟨r + 1, v, vals, by omega, by go_num, by have := HM.out; rw [show colsTo (flatS k R) r k = rowsTo (flatS k R) (r + 1) from colsTo_all (flatS k R) r] at this; exact this⟩
          case measure => simp [intOf]; omega
    · obtain rfl : r = R := by omega
      obtain ⟨A1, c1, hv⟩ := own_form hm.pb.own
      subst hv
      have x0 : wr.cell? ⟨w.heap.size + 2, 0, none⟩ = some (.int .i64 (C : Int)) := hm.b2.cell 0
      have x1 : wr.cell? ⟨w.heap.size + 2, 1, none⟩ = some (.int .i64 (r : Int)) := hm.b2.cell 1
      have x2 : wr.cell? ⟨w.heap.size + 2, 2, none⟩ = some (.slice A1 _ c1) := hm.b2.cell 2
      have y0 : wr.cell? ⟨w.heap.size + 1, 0, none⟩ = some (.int .i64 0) := hm.b1.cell 0
      have y1 : wr.cell? ⟨w.heap.size + 1, 1, none⟩ = some (.int .i64 0) := hm.b1.cell 1
      have y2 : wr.cell? ⟨w.heap.size + 1, 2, none⟩ = some (.slice none 0 0) := hm.b1.cell 2
      have f0 := hm.b1.frozen 0
      have f1 := hm.b1.frozen 1
      have f2 := hm.b1.frozen 2
      have hlt2 := hm.b1.lt
      have HM := Lib.hid hm
      clear hm
      go_wp2
      refine bodyPost_ret (v := .agg #[.int .i64 (C : Int), .int .i64 (r : Int), .slice A1 vals.length c1]) (by simp [results, Tryd.results20, go_sem, y0, y1, y2]) rfl ?_
      rw [HP.out]
      refine ⟨_, vals, rfl, ?_, ?_⟩
      · exact (((HM.out.pb.far (p := ⟨w.heap.size + 1, 0, none⟩) (by simp) (.int .i64 (C : Int))).far (p := ⟨w.heap.size + 1, 1, none⟩) (by simp) (.int .i64 (r : Int))).far (p := ⟨w.heap.size + 1, 2, none⟩) (by simp) (.slice A1 vals.length c1)).pl.mono fun b _ (h : _ ≤ b) => by omega
      · exact ((HM.out.be.setCell (p := ⟨w.heap.size + 1, 0, none⟩) (by simp) (.int .i64 (C : Int))).setCell (p := ⟨w.heap.size + 1, 1, none⟩) (by simp) (.int .i64 (r : Int))).setCell (p := ⟨w.heap.size + 1, 2, none⟩) (by simp) (.slice A1 vals.length c1)
end Go.Proofs.YtjmanooedgfbaaaDoor
