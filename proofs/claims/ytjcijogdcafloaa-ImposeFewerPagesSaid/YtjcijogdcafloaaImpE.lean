/- The walks of box, imposes; reading placed pages. -/
import Derived.Test.YtjcijogdcafloaaImpD
import Derived.Test.YtjcijogdcafloaaOnce
namespace Go.Proofs.Ytjcijogdcafloaa
open Go.RowKit
def pla0 : Pla := ⟨0, 0, 0, 0⟩
def plN (l : List Pla) (i : Nat) : Pla := l.getD i pla0
theorem plN_get (l : List Pla) {i : Nat} (h : i < l.length) : l[i]? = some (plN l i) := by
  unfold plN; rw [List.getD_eq_getElem?_getD, List.getElem?_eq_getElem h]; rfl
theorem plcells_at (l : List Pla) (i j : Nat) (hi : i < l.length) (hj : j < 4) : (plcells l)[i * 4 + j]? = (plcell (plN l i))[j]? := by
  induction l generalizing i with
  | nil => simp at hi
  | cons p l ih =>
    cases i with
    | zero =>
      have : plN (p :: l) 0 = p := rfl
      rw [this]
      simp only [plcells, List.flatMap_cons]
      rw [List.getElem?_append_left (by simp [plcell]; omega)]; simp
    | succ i =>
      have e : plN (p :: l) (i + 1) = plN l i := rfl
      rw [e, ← ih i (by simpa using hi)]
      simp only [plcells, List.flatMap_cons]
      rw [List.getElem?_append_right (by simp [plcell]; omega)]
      congr 1; simp [plcell]; omega
theorem PlV.cells {w : World} {ok : Nat → Prop} {v : Value} {l : List Pla} (h : PlV w ok v l) (hn : 0 < l.length) : ∃ b off cap, v = .slice (some ⟨b, off, none⟩) l.length cap ∧ ok b ∧ b < w.heap.size ∧ l.length ≤ cap ∧ cap ≤ maxLen ∧
    ∀ i, i < l.length → w.cell? ⟨b, off + i * 4, none⟩ = some (.int .i64 (plN l i).page) ∧ w.cell? ⟨b, off + i * 4 + 1, none⟩ = some (.int .i64 (plN l i).x) ∧ w.cell? ⟨b, off + i * 4 + 2, none⟩ = some (.int .i64 (plN l i).y) ∧ w.cell? ⟨b, off + i * 4 + 3, none⟩ = some (.int .i64 (plN l i).turn) := by
  obtain ⟨b, off, cap, hv, hb, hl, h1, h2, hc⟩ := SlM.open_ h hn
  refine ⟨b, off, cap, hv, hb, hl, h1, h2, fun i hi => ?_⟩
  have key : ∀ j u, j < 4 → (plcell (plN l i))[j]? = some u → w.cell? ⟨b, off + i * 4 + j, none⟩ = some u := fun j u hj hu => by
    rw [Nat.add_assoc]; exact hc _ u ((plcells_at l i j hi hj).trans hu)
  exact ⟨key 0 _ (by omega) rfl, key 1 _ (by omega) rfl, key 2 _ (by omega) rfl, key 3 _ (by omega) rfl⟩
theorem PlV.form {w : World} {ok : Nat → Prop} {v : Value} {l : List Pla} (h : PlV w ok v l) : ∃ A cap, v = .slice A l.length cap := SlM.form h
set_option maxRecDepth 100000 in
set_option maxHeartbeats 4000000 in
theorem box_any (L : Lay) (A : Option Addr) (n cv : Nat) (p : Pla) (w : World) (w1 : 1 ≤ L.W) (w2 : L.W ≤ 256) (h1 : 1 ≤ L.H) (h2 : L.H ≤ 256) (x0 : 0 ≤ p.x) (x1 : p.x ≤ 100000) (y0 : 0 ≤ p.y) (y1 : p.y ≤ 100000) (t0 : 0 ≤ p.turn) (t4 : p.turn < 4) :
    Calls Try.prog 11 #[layV L (.slice A n cv), .agg #[.int .i64 p.page, .int .i64 p.x, .int .i64 p.y, .int .i64 p.turn]] w fun e w' => e = .returned (.tuple #[.int .i64 p.x, .int .i64 p.y, .int .i64 (p.x + L.bw p.turn), .int .i64 (p.y + L.bh p.turn)]) ∧ Below w.heap.size w w' := by
  have HB : Hid (L.bw p.turn = (if p.turn % 2 = 1 then L.H else L.W) ∧ L.bh p.turn = (if p.turn % 2 = 1 then L.W else L.H)) := ⟨rfl, rfl⟩
  generalize L.bw p.turn = bw at *
  generalize L.bh p.turn = bh at *
  unfold layV
  obtain ⟨C, R, W, H, hd, fo, sp, mg, cr, sty, od⟩ := L
  obtain ⟨pp, px, py, pt⟩ := p
  dsimp only at *
  have hb0 := Lib.hid (((Below.refl w.heap.size w).alloc (Nat.le_refl _) (Obj.cells #[.int .i64 (C : Int), .int .i64 (R : Int), .slice A n cv, .int .i64 W, .int .i64 H, .int .i64 hd, .int .i64 fo, .int .i64 sp, .int .i64 mg, .int .i64 cr, .int .i64 sty] 26)).alloc (by simp) (Obj.cells #[.int .i64 pp, .int .i64 px, .int .i64 py, .int .i64 pt] 36))
  by_cases hp : pt % 2 = 1
  · rw [if_pos hp, if_pos hp] at HB
    have hpb : (pt % 2 == 1) = true := by simpa using hp
    have z1 : IntKind.i64.wrap (px + H) = px + H := IntWalk.i64_in _ (by omega)
    have z2 : IntKind.i64.wrap (py + W) = py + W := IntWalk.i64_in _ (by omega)
    go_enter Try.func11, Try.ntmps11
    go_wp2
    go_quiet (fail)
    go_wp2
    go_quiet (fail)
    clear z1 z2
    go_wp2
    refine bodyPost_ret (v := .tuple #[.int .i64 px, .int .i64 py, .int .i64 (px + H), .int .i64 (py + W)]) (by simp [results, Try.results11, go_sem]) rfl ?_
    exact ⟨by rw [HB.out.1, HB.out.2], below_drewN (below_drewN hb0.out _) _⟩
  · rw [if_neg hp, if_neg hp] at HB
    have hpb : (pt % 2 == 1) = false := by simpa using hp
    have z1 : IntKind.i64.wrap (px + W) = px + W := IntWalk.i64_in _ (by omega)
    have z2 : IntKind.i64.wrap (py + H) = py + H := IntWalk.i64_in _ (by omega)
    go_enter Try.func11, Try.ntmps11
    go_wp2
    go_quiet (fail)
    go_wp2
    go_quiet (fail)
    clear z1 z2
    go_wp2
    refine bodyPost_ret (v := .tuple #[.int .i64 px, .int .i64 py, .int .i64 (px + W), .int .i64 (py + H)]) (by simp [results, Try.results11, go_sem]) rfl ?_
    exact ⟨by rw [HB.out.1, HB.out.2], below_drewN (below_drewN hb0.out _) _⟩
def onceI : LayI := ⟨2, 1, 10, 10, 0, 0, 0, 0, 0, 0⟩
theorem impZ_once : impZ onceI onceL = 0 := by decide
/-- Sheet for a layout as it comes in. -/
theorem sheet_any {I : LayI} {v : Value} {l : List Step} (hz : impZ I l = 0) (k : Nat) (hk : k ≤ (psOf (I.lay l) l).length) (w : World) (hI : Sv w v l) :
    Calls Try.prog 10 #[I.val v, .int .i64 (k : Int)] w (SheetOk (I.lay l).pw (I.lay l).ph ((I.lay l).frontTo (psOf (I.lay l) l) k) ((I.lay l).backTo (psOf (I.lay l) l) k) w) := by
  obtain ⟨c, r, ec, er, hLB, ok, hpw, hph⟩ := impZ_zero v hz
  rw [layV_eq ec er]
  refine sheet_ok hLB ok hpw hph k hk w hI fun w' hb => ?_
  rw [← layV_eq ec er]
  have := impcheck_any I v l w' (SlM.later hI hb)
  rw [hz] at this; exact this
theorem ps_once : psOf (onceI.lay onceL) onceL = [⟨true, 1, 0, 0⟩, ⟨false, 0, 0, 0⟩, ⟨false, 1, 0, 0⟩, ⟨true, 0, 0, 0⟩] := pages_once'
theorem front_once : (onceI.lay onceL).frontTo (psOf (onceI.lay onceL) onceL) 4 = [⟨2, 0, 0, 0⟩, ⟨3, 10, 0, 0⟩] := by rw [ps_once]; rfl
set_option maxRecDepth 100000 in
set_option maxHeartbeats 4000000 in
theorem imposes_any (w : World) : Calls Try.prog 9 #[] w fun e w' => e = .returned (.bool true) ∧ Below w.heap.size w w' := by
  have HSh : Hid (∀ (v : Value) (w : World), Sv w v onceL → Calls Try.prog 10 #[.agg #[.int .i64 2, .int .i64 1, v, .int .i64 10, .int .i64 10, .int .i64 0, .int .i64 0, .int .i64 0, .int .i64 0, .int .i64 0, .int .i64 0], .int .i64 4] w fun e w' => ∃ a b g off cap A n c, e = .returned (.tuple #[.agg #[.int .i64 a, .int .i64 b, .slice (some ⟨g, off, none⟩) 2 cap, .slice A n c], .int .i64 0]) ∧ w'.cell? ⟨g, off + 4, none⟩ = some (.int .i64 3) ∧ w'.cell? ⟨g, off + 5, none⟩ = some (.int .i64 10) ∧ w'.cell? ⟨g, off + 6, none⟩ = some (.int .i64 0) ∧ w'.cell? ⟨g, off + 7, none⟩ = some (.int .i64 0) ∧ g < w'.heap.size ∧ 2 ≤ cap ∧ Below w.heap.size w w') := by
    intro v w hv
    refine (sheet_any (I := onceI) impZ_once 4 (by rw [ps_once]; decide) w hv).mono ?_
    rintro e w' ⟨vf, vb, rfl, hf, hb, hbe⟩
    rw [front_once] at hf
    obtain ⟨b, off, cap, rfl, _, hlt, hcap, _, hc⟩ := hf.cells (by decide)
    obtain ⟨A, c, rfl⟩ := hb.form
    obtain ⟨c0, c1, c2, c3⟩ := hc 1 (by decide)
    exact ⟨_, _, b, off, cap, A, _, c, rfl, c0, c1, c2, c3, hlt, hcap, hbe⟩
  have heq : ∀ W, (binOp .eql 36 (.agg #[.int .i64 3, .int .i64 10, .int .i64 0, .int .i64 0]) (.agg #[.int .i64 3, .int .i64 10, .int .i64 0, .int .i64 0])).run Try.prog W = .ok (.bool true) W := fun W => by
    simp [go_sem]
  go_enter Try.func9, Try.ntmps9
  go_wp2_with fail
  refine (once_any _).mono ?_; rintro e w1 ⟨v1, rfl, hs1, hb1⟩
  have HS1 := Lib.hid hs1
  have HB1 := Lib.hid hb1
  obtain ⟨Av, cv, ev⟩ := SlM.form hs1
  subst ev
  clear hs1 hb1
  go_wp2_with fail
  refine (HSh.out _ _ HS1.out).mono ?_; rintro e w2 ⟨a, b, g, off, cap, A, n, c, rfl, c0, c1, c2, c3, hlt, hcap, hb2⟩
  have HB2 := Lib.hid (HB1.out.trans (hb2.mono HB1.out.size))
  clear hb2
  go_wp2
  go_ret
  exact ⟨rfl, HB2.out.alloc HB2.out.size _⟩
end Go.Proofs.Ytjcijogdcafloaa
