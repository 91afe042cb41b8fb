/- The walk of raster.Paste. -/
import Derived.Test.YtjcijogdcafloaaRasMk
import Derived.Test.YtjcijogdcafloaaPasPlain
import Derived.Test.YtjcijogdcafloaaPasLaw
namespace Go.Proofs.Ytjcijogdcafloaa
open Go.RowKit
def PasteOk (W H : Nat) (l : List UInt8) (w : World) (e : Ending) (w' : World) : Prop :=
  ∃ v', e = .returned (.tuple #[.agg #[.int .i64 W, .int .i64 H, v'], .int .i64 0]) ∧ w'.ownsRow w.heap.size 5 1 v' l.length (byts l) ∧ Below w.heap.size w w'
/-- What Paste has in memory at its loop. -/
structure PasM (W H pW pH n c pn pc : Nat) (A pA : Option Addr) (w : World) (B G : Nat) (vo : Value) (l : List UInt8) (wr : World) : Prop where
  b1 : Blk wr w.heap.size 93 #[.int .i64 (W : Int), .int .i64 (H : Int), .slice A n c]
  b2 : Blk wr (w.heap.size + 1) 93 #[.int .i64 (pW : Int), .int .i64 (pH : Int), .slice pA pn pc]
  b3 : Blk wr (w.heap.size + 1 + 1) 93 #[.int .i64 0, .int .i64 0, .slice none 0 0]
  bg : Blk wr G 93 #[.int .i64 (W : Int), .int .i64 (H : Int), vo]
  own : wr.ownsRow B 5 1 vo n (byts l)
  be : Below w.heap.size w wr
  hB : w.heap.size + 2 < B
  hG : B ≤ G
section
variable {W H pW pH n c pn pc : Nat} {A pA : Option Addr} {w : World} {B G : Nat} {vo : Value} {l l' : List UInt8} {wr w1 : World}
theorem PasM.drewN (h : PasM W H pW pH n c pn pc A pA w B G vo l wr) (k : Nat) : PasM W H pW pH n c pn pc A pA w B G vo l (wr.drewN k) :=
  ⟨h.b1.drewN k, h.b2.drewN k, h.b3.drewN k, h.bg.drewN k, h.own, below_drewN h.be k, h.hB, h.hG⟩
theorem PasM.drew (h : PasM W H pW pH n c pn pc A pA w B G vo l wr) : PasM W H pW pH n c pn pc A pA w B G vo l wr.drew :=
  ⟨h.b1.drew, h.b2.drew, h.b3.drew, h.bg.drew, h.own, h.be.drew, h.hB, h.hG⟩
theorem PasM.copied (h : PasM W H pW pH n c pn pc A pA w B G vo l wr) {g : Nat} (hv : vo.ownBlock = some g) (ho : w1.ownsRow B 5 1 vo n (byts l')) (hg : wr.grownBy w1 (some g)) : PasM W H pW pH n c pn pc A pA w B G vo l' w1 := by
  have hb := (own_lt h.own g hv).1
  have hB := h.hB
  have hne : some G ≠ some g := fun e => own_ne h.bg (by decide) h.own (by rw [hv, e])
  exact ⟨h.b1.grown hg (fun e => by have := Option.some.inj e; omega), h.b2.grown hg (fun e => by have := Option.some.inj e; omega), h.b3.grown hg (fun e => by have := Option.some.inj e; omega), h.bg.grown hg hne, ho, h.be.grown hg h.be.size (fun k hk => by have := Option.some.inj hk; omega), h.hB, h.hG⟩
end
/-- Nothing is pasted below the first row that shows. -/
theorem pasTo_low {W H : Nat} {g : List UInt8} (hg : g.length = W * H) (x y : Int) (pW : Nat) (p : List UInt8) {j : Int} (hj : j ≤ max 0 (-y)) : pasTo W H g x y pW p j = g := by
  apply pixN_ext (by rw [pasTo_length, hg])
  intro i hi
  rw [pasTo_length] at hi
  rw [pasTo_get _ _ _ _ _ _ hi, if_neg]
  rintro ⟨_, _, h3, h4⟩
  generalize i / W = v at h3 h4
  omega
theorem pasTo_fin {W H pW pH : Nat} {g p : List UInt8} (hg : g.length = W * H) {x y : Int} {J r : Nat} (hJ : J ≤ pH ∨ (J : Int) = max 0 (-y)) (hr : y + (J : Int) = r) (hn : ¬ (J < pH ∧ r < H)) : pasTo W H g x y pW p J = pasL W H g x y pW pH p := by
  by_cases h : J ≤ pH
  · exact pasTo_end (by omega) (by omega)
  · rcases hJ with h' | h'
    · exact absurd h' h
    · unfold pasL
      rw [pasTo_low hg x y pW p (j := (J : Int)) (by omega), pasTo_low hg x y pW p (j := (pH : Int)) (by omega)]
theorem byts_splice (l : List UInt8) (off : Nat) (s : List UInt8) : splice (byts l) off (byts s) = byts (spl l off s) := by
  unfold splice spl byts
  simp [List.map_take, List.map_drop]
theorem gridZ_ok {W H n : Nat} (w1 : 1 ≤ W) (w2 : W ≤ 1024) (h1 : 1 ≤ H) (h2 : H ≤ 1024) (hn : n = W * H) : gridZ (W : Int) (H : Int) n = 0 := by
  unfold gridZ
  rw [sizedB_iff.2 ⟨by omega, by omega, by omega, by omega⟩, if_pos rfl, if_pos (by rw [hn]; simp)]
theorem gcheck_ok (W H : Nat) (A : Option Addr) (n c : Nat) (w : World) (h : Hid (1 ≤ W ∧ W ≤ 1024 ∧ 1 ≤ H ∧ H ≤ 1024 ∧ n = W * H)) : Calls Try.prog 58 #[.agg #[.int .i64 W, .int .i64 H, .slice A n c]] w fun e w'' => e = .returned (.int .i64 0) ∧ Below w.heap.size w w'' := by
  obtain ⟨w1, w2, h1, h2, hn⟩ := h.out
  have := gcheck_any W H A n c w
  rw [gridZ_ok w1 w2 h1 h2 hn] at this; exact this
set_option maxRecDepth 100000 in
set_option maxHeartbeats 4000000 in
theorem paste_ok (W H : Nat) (v : Value) (g : List UInt8) (x y : Int) (pW pH : Nat) (pv : Value) (p : List UInt8) (ok okp : Nat → Prop) (w : World) (w1 : 1 ≤ W) (w2 : W ≤ 1024) (h1 : 1 ≤ H) (h2 : H ≤ 1024) (p1 : 1 ≤ pW) (p2 : pW ≤ 1024) (q1 : 1 ≤ pH) (q2 : pH ≤ 1024)
    (x1 : -1024 ≤ x) (x2 : x ≤ 1024) (y1 : -1024 ≤ y) (y2 : y ≤ 1024) (hg : g.length = W * H) (hp : p.length = pW * pH) (hgS : Sl w ok v (byts g)) (hpS : Sl w okp pv (byts p)) :
    Calls Try.prog 40 #[.agg #[.int .i64 (W : Int), .int .i64 (H : Int), v], .int .i64 x, .int .i64 y, .agg #[.int .i64 (pW : Int), .int .i64 (pH : Int), pv]] w (PasteOk W H (pasL W H g x y pW pH p) w) := by
  have HL := Lib.hid hgS
  have HM := Lib.hid hpS
  obtain ⟨A, c, ev⟩ := hgS.form
  obtain ⟨pA, pc, epv⟩ := hpS.form
  rw [byts_length] at ev epv
  subst ev; subst epv
  clear hgS hpS
  have hle : W * H ≤ 1024 * 1024 := Nat.mul_le_mul w2 h2
  have HC : Hid (∀ w', Below w.heap.size w w' → Calls Try.prog 59 #[.slice A g.length c] w' fun e w'' => ∃ A' c', e = .returned (.slice A' g.length c') ∧ w''.ownsRow w'.heap.size 5 1 (.slice A' g.length c') g.length (byts g) ∧ Below w'.heap.size w' w'') := fun w' hb => (clone_bytes _ g ok w' (HL.out.later hb) (by omega)).mono fun e w'' h => by
    obtain ⟨v', he, ho, hb⟩ := h
    obtain ⟨A', c', rfl⟩ := own_form ho
    exact ⟨A', c', he, ho, hb⟩
  have HP : Hid (∀ e w', PasteOk W H (pasL W H g x y pW pH p) w e w' = ∃ v', e = .returned (.tuple #[.agg #[.int .i64 W, .int .i64 H, v'], .int .i64 0]) ∧ w'.ownsRow w.heap.size 5 1 v' (pasL W H g x y pW pH p).length (byts (pasL W H g x y pW pH p)) ∧ Below w.heap.size w w') := fun _ _ => rfl
  generalize PasteOk W H (pasL W H g x y pW pH p) w = Post at *
  have HG := Lib.hid (And.intro w1 (And.intro w2 (And.intro h1 (And.intro h2 hg))))
  have HPl := Lib.hid (And.intro p1 (And.intro p2 (And.intro q1 (And.intro q2 hp))))
  clear hg hp
  generalize hn : g.length = n at *
  generalize hpn : p.length = pn at *
  have HN := Lib.hid hn
  have HPn := Lib.hid hpn
  clear hn hpn
  have b1 := ((Blk.new w 93 #[.int .i64 (W : Int), .int .i64 (H : Int), .slice A n c]).alloc (Obj.cells #[.int .i64 (pW : Int), .int .i64 (pH : Int), .slice pA pn pc] 93)).alloc (Obj.cells #[.int .i64 0, .int .i64 0, .slice none 0 0] 93)
  have b2 := (Blk.new (w.alloc (Obj.cells #[.int .i64 (W : Int), .int .i64 (H : Int), .slice A n c] 93)) 93 #[.int .i64 (pW : Int), .int .i64 (pH : Int), .slice pA pn pc]).alloc (Obj.cells #[.int .i64 0, .int .i64 0, .slice none 0 0] 93)
  have b3 := Blk.new ((w.alloc (Obj.cells #[.int .i64 (W : Int), .int .i64 (H : Int), .slice A n c] 93)).alloc (Obj.cells #[.int .i64 (pW : Int), .int .i64 (pH : Int), .slice pA pn pc] 93)) 93 #[.int .i64 0, .int .i64 0, .slice none 0 0]
  have b0 : Below w.heap.size w (((w.alloc (Obj.cells #[.int .i64 (W : Int), .int .i64 (H : Int), .slice A n c] 93)).alloc (Obj.cells #[.int .i64 (pW : Int), .int .i64 (pH : Int), .slice pA pn pc] 93)).alloc (Obj.cells #[.int .i64 0, .int .i64 0, .slice none 0 0] 93)) := (((Below.refl _ w).alloc (Nat.le_refl _) _).alloc (by simp) _).alloc (by simp; omega) _
  simp only [World.size_alloc] at b2 b3
  have B1 := Lib.hid b1
  have B2 := Lib.hid b2
  have B3 := Lib.hid b3
  have B0 := Lib.hid b0
  clear b1 b2 b3 b0
  have HX : Hid ((decide (x < -1024) || decide (1024 < x) || decide (y < -1024) || decide (1024 < y)) = false) := by show _ = _; simp; omega
  have HQ : Hid (∀ w' w'' : World, (w'.cell? ⟨w.heap.size, 0, none⟩ = some (.int .i64 W) ∧ w'.cell? ⟨w.heap.size, 1, none⟩ = some (.int .i64 H) ∧ w'.cell? ⟨w.heap.size, 2, none⟩ = some (.slice A n c) ∧ Below w.heap.size w w' ∧ w.heap.size + 2 < w'.heap.size) → Below w'.heap.size w' w'' → (w''.cell? ⟨w.heap.size, 0, none⟩ = some (.int .i64 W) ∧ w''.cell? ⟨w.heap.size, 1, none⟩ = some (.int .i64 H) ∧ w''.cell? ⟨w.heap.size, 2, none⟩ = some (.slice A n c) ∧ Below w.heap.size w w'' ∧ w.heap.size + 2 < w''.heap.size)) := by
    rintro w' w'' ⟨a0, a1, a2, a3, a4⟩ hb
    exact ⟨(hb.cell (p := ⟨w.heap.size, 0, none⟩) (by show w.heap.size < _; omega)).trans a0, (hb.cell (p := ⟨w.heap.size, 1, none⟩) (by show w.heap.size < _; omega)).trans a1, (hb.cell (p := ⟨w.heap.size, 2, none⟩) (by show w.heap.size < _; omega)).trans a2, a3.trans (hb.mono a3.size), Nat.lt_of_lt_of_le a4 hb.size⟩
  have HSt : Hid (∀ (w' : World) (k : Nat) (z0 z1 z2 : Value), w.heap.size + 2 < k → (w'.cell? ⟨w.heap.size, 0, none⟩ = some (.int .i64 W) ∧ w'.cell? ⟨w.heap.size, 1, none⟩ = some (.int .i64 H) ∧ w'.cell? ⟨w.heap.size, 2, none⟩ = some (.slice A n c) ∧ Below w.heap.size w w' ∧ w.heap.size + 2 < w'.heap.size) → ((((w'.setCell ⟨k, 0, none⟩ z0).setCell ⟨k, 1, none⟩ z1).setCell ⟨k, 2, none⟩ z2).cell? ⟨w.heap.size, 0, none⟩ = some (.int .i64 W) ∧ (((w'.setCell ⟨k, 0, none⟩ z0).setCell ⟨k, 1, none⟩ z1).setCell ⟨k, 2, none⟩ z2).cell? ⟨w.heap.size, 1, none⟩ = some (.int .i64 H) ∧ (((w'.setCell ⟨k, 0, none⟩ z0).setCell ⟨k, 1, none⟩ z1).setCell ⟨k, 2, none⟩ z2).cell? ⟨w.heap.size, 2, none⟩ = some (.slice A n c) ∧ Below w.heap.size w (((w'.setCell ⟨k, 0, none⟩ z0).setCell ⟨k, 1, none⟩ z1).setCell ⟨k, 2, none⟩ z2) ∧ w.heap.size + 2 < (((w'.setCell ⟨k, 0, none⟩ z0).setCell ⟨k, 1, none⟩ z1).setCell ⟨k, 2, none⟩ z2).heap.size)) := by
    rintro w' k z0 z1 z2 hk ⟨a0, a1, a2, a3, a4⟩
    have oth : ∀ (U : World) (o p : Nat) (u : Value), (U.setCell ⟨k, p, none⟩ u).cell? ⟨w.heap.size, o, none⟩ = U.cell? ⟨w.heap.size, o, none⟩ := fun U o p u => World.cell?_setCell_other U _ _ u (by simp <;> omega)
    refine ⟨?_, ?_, ?_, ((a3.setCell (by show w.heap.size ≤ k; omega) _).setCell (by show w.heap.size ≤ k; omega) _).setCell (by show w.heap.size ≤ k; omega) _, by simpa [World.setCell] using a4⟩
    · rw [oth, oth, oth]; exact a0
    · rw [oth, oth, oth]; exact a1
    · rw [oth, oth, oth]; exact a2
  go_enter Try.func40, Try.ntmps40
  go_wp2_with (go_at_call 58; refine (gcheck_ok _ _ _ _ _ _ (by assumption)).mono ?_; rintro e wa ⟨rfl, hba⟩; have B1 := Lib.hid (B1.out.below hba B1.out.lt); have B2 := Lib.hid (B2.out.below hba B2.out.lt); have B3 := Lib.hid (B3.out.below hba B3.out.lt); have B0 := Lib.hid (B0.out.trans (hba.mono B0.out.size)); clear hba; have u0 := B2.out.cell 0; have u1 := B2.out.cell 1; have u2 := B2.out.cell 2; simp only [List.getElem?_toArray, List.getElem?_cons_zero, List.getElem?_cons_succ] at u0 u1 u2)
  rename_i wb _ _ _
  have l0 := B3.out.lt
  have hS0 : (fun w' : World => w'.cell? ⟨w.heap.size, 0, none⟩ = some (.int .i64 W) ∧ w'.cell? ⟨w.heap.size, 1, none⟩ = some (.int .i64 H) ∧ w'.cell? ⟨w.heap.size, 2, none⟩ = some (.slice A n c) ∧ Below w.heap.size w w' ∧ w.heap.size + 2 < w'.heap.size) wa := ⟨B1.out.cell 0, B1.out.cell 1, B1.out.cell 2, B0.out, l0⟩
  dsimp only at hS0
  have HBn := Lib.hid (Blk.new wa 93 #[.int .i64 0, .int .i64 0, .slice none 0 0]).drew
  go_region_held3 (fun w' => w'.cell? ⟨w.heap.size, 0, none⟩ = some (.int .i64 W) ∧ w'.cell? ⟨w.heap.size, 1, none⟩ = some (.int .i64 H) ∧ w'.cell? ⟨w.heap.size, 2, none⟩ = some (.slice A n c) ∧ Below w.heap.size w w' ∧ w.heap.size + 2 < w'.heap.size)
    (first | exact hS0 | exact HQ.out _ _ hS0 ((Below.refl _ _).alloc (Nat.le_refl _) _) | exact HQ.out _ _ hS0 (Below.refl _ _).drew | exact HQ.out _ _ hS0 ((Below.refl _ _).alloc (Nat.le_refl _) _).drew | exact HQ.out _ _ hS0 ((Below.refl _ _).drew.alloc (Nat.le_refl _) _) | exact hP1 | exact HQ.out _ _ hP1 ((Below.refl _ _).alloc (Nat.le_refl _) _) | (refine HSt.out _ _ _ _ _ ?_ hP1; first | exact l0 | (simp <;> omega)))
    (first | (go_at_call 59; refine (HC.out _ (by first | exact B0.out.drew | exact (B0.out.alloc (Nat.le_of_lt (Nat.lt_of_le_of_lt (Nat.le_add_right _ 2) l0)) _).drew)).mono ?_; rintro e w1 ⟨A1, c1, rfl, ho1, hb1⟩; have hP1 := HQ.out _ _ (by first | exact HQ.out _ _ hS0 (Below.refl _ _).drew | exact HQ.out _ _ hS0 ((Below.refl _ _).alloc (Nat.le_refl _) _).drew) hb1; try (have bz := HBn.out.below hb1 HBn.out.lt; have z0 := bz.cell 0; have z1 := bz.cell 1; have z2 := bz.cell 2; simp only [List.getElem?_toArray, List.getElem?_cons_zero, List.getElem?_cons_succ] at z0 z1 z2; have y0 := bz.frozen 0; have y1 := bz.frozen 1; have y2 := bz.frozen 2; have lz := bz.lt; have HBz := Lib.hid bz; clear bz)))
  all_goals
    have HO := Lib.hid ho1
    have HB1 := Lib.hid hb1
    clear hP1 ho1 hb1 hS0 u0 u1 u2
    go_wp2
  focus
    have pm : PasM W H pW pH n c pn pc A pA w wa.heap.size w1.heap.size (.slice A1 n c1) g (w1.alloc (Obj.cells #[.int .i64 (W : Int), .int .i64 (H : Int), .slice A1 n c1] 93)) := by
      have hs := HB1.out.size
      have hs' : wa.heap.size ≤ w1.heap.size := hs
      exact ⟨(B1.out.drew.below HB1.out B1.out.lt).alloc _, (B2.out.drew.below HB1.out B2.out.lt).alloc _, (B3.out.drew.below HB1.out B3.out.lt).alloc _, Blk.new w1 _ _, HO.out.alloc _, (B0.out.drew.trans (HB1.out.mono B0.out.drew.size)).alloc (by omega) _, l0, hs'⟩
    generalize hbg : w1.heap.size = G at *
    generalize (w1.alloc (Obj.cells #[.int .i64 (W : Int), .int .i64 (H : Int), .slice A1 n c1] 93)) = wl at *
    obtain ⟨B, HPM⟩ : ∃ B, Hid (PasM W H pW pH n c pn pc A pA w B G (.slice A1 n c1) g wl) := ⟨_, pm⟩
    clear pm hbg
  rotate_left
  focus
    have pm : PasM W H pW pH n c pn pc A pA w wa.heap.size wa.heap.size (.slice A1 n c1) g (((w1.setCell ⟨wa.heap.size, 0, none⟩ (.int .i64 W)).setCell ⟨wa.heap.size, 1, none⟩ (.int .i64 H)).setCell ⟨wa.heap.size, 2, none⟩ (.slice A1 n c1)) := by
      have e1 := ((B1.out.alloc (Obj.cells #[.int .i64 0, .int .i64 0, .slice none 0 0] 93)).drew.below HB1.out (by have := (B1.out.alloc (Obj.cells #[.int .i64 0, .int .i64 0, .slice none 0 0] 93)).lt; exact this))
      have e2 := ((B2.out.alloc (Obj.cells #[.int .i64 0, .int .i64 0, .slice none 0 0] 93)).drew.below HB1.out (by have := (B2.out.alloc (Obj.cells #[.int .i64 0, .int .i64 0, .slice none 0 0] 93)).lt; exact this))
      have e3 := ((B3.out.alloc (Obj.cells #[.int .i64 0, .int .i64 0, .slice none 0 0] 93)).drew.below HB1.out (by have := (B3.out.alloc (Obj.cells #[.int .i64 0, .int .i64 0, .slice none 0 0] 93)).lt; exact this))
      refine ⟨((e1.far (by simp; omega) _).far (by simp; omega) _).far (by simp; omega) _, ((e2.far (by simp; omega) _).far (by simp; omega) _).far (by simp; omega) _, ((e3.far (by simp; omega) _).far (by simp; omega) _).far (by simp; omega) _, ?_, ?_, ?_, l0, Nat.le_refl _⟩
      · have := ((HBz.out.put 0 (.int .i64 W)).put 1 (.int .i64 H)).put 2 (.slice A1 n c1); simpa using this
      · exact own_base (own_setCell (own_setCell (own_setCell HO.out (p := ⟨wa.heap.size, 0, none⟩) (.inl (by show wa.heap.size < (wa.alloc _).heap.size; simp)) _) (p := ⟨wa.heap.size, 1, none⟩) (.inl (by show wa.heap.size < (wa.alloc _).heap.size; simp)) _) (p := ⟨wa.heap.size, 2, none⟩) (.inl (by show wa.heap.size < (wa.alloc _).heap.size; simp)) _) (by show wa.heap.size ≤ (wa.alloc _).heap.size; simp)
      · have hb := (B0.out.alloc (by omega) (Obj.cells #[.int .i64 0, .int .i64 0, .slice none 0 0] 93)).drew
        exact (((hb.trans (HB1.out.mono hb.size)).setCell (p := ⟨wa.heap.size, 0, none⟩) (by show _ ≤ wa.heap.size; omega) _).setCell (p := ⟨wa.heap.size, 1, none⟩) (by show _ ≤ wa.heap.size; omega) _).setCell (p := ⟨wa.heap.size, 2, none⟩) (by show _ ≤ wa.heap.size; omega) _
    generalize hbg : wa.heap.size = G at *
    generalize (((w1.setCell ⟨G, 0, none⟩ (.int .i64 W)).setCell ⟨G, 1, none⟩ (.int .i64 H)).setCell ⟨G, 2, none⟩ (.slice A1 n c1)) = wl at *
    obtain ⟨B, HPM⟩ : ∃ B, Hid (PasM W H pW pH n c pn pc A pA w B G (.slice A1 n c1) g wl) := ⟨_, pm⟩
    clear pm hbg
  all_goals
    have hg0 : g.length = W * H := HG.out.2.2.2.2 ▸ HN.out
    have hj0 : (0 : Int) ≤ max 0 (-y) ∧ max 0 (-y) ≤ 1024 := by omega
    obtain ⟨J0, hJ0⟩ := Int.eq_ofNat_of_zero_le hj0.1
    have hst := pasTo_start hg0 x y pW p hJ0.symm
    have HST := Lib.hid hst
    have HJ0 := Lib.hid hJ0
    clear hst hJ0 hg0 hj0
    try clear z0 z1 z2 y0 y1 y2 lz HBz
    have hn1 : 1 ≤ n ∧ n ≤ 1048576 ∧ n = W * H := by
      obtain ⟨a1, a2, a3, a4, a5⟩ := HG.out
      have := Nat.mul_le_mul a1 a3
      omega
    have hpn1 : 1 ≤ pn ∧ pn ≤ 1048576 ∧ pn = pW * pH := by
      obtain ⟨a1, a2, a3, a4, a5⟩ := HPl.out
      have := Nat.mul_le_mul a1 a3
      have := Nat.mul_le_mul a2 a4
      omega
    obtain ⟨gr, rfl, hnc, hgr⟩ : ∃ gr, A1 = some ⟨gr, 0, none⟩ ∧ n ≤ c1 ∧ c1 ≤ maxLen := by
      rcases HPM.out.own.2 with ⟨e, h0⟩ | ⟨gr, cap, cur, e, _, _, h2, h3, _⟩
      · omega
      · injection e with e1 _ e2
        exact ⟨gr, e1, by omega, by omega⟩
    obtain ⟨pb, po, rfl, hpb, hpc⟩ := HM.out.plainA (by rw [byts_length, HPn.out]; omega)
    have hpcap := HM.out.cap_le.2
    unfold maxLen at hgr hpcap
    have HSrc : Hid (∀ wr : World, Below w.heap.size w wr → ∀ k u, (byts p)[k]? = some u → wr.cell? ⟨pb, po + k, none⟩ = some u) := fun wr hb k u hu => (hb.cell (p := ⟨pb, po + k, none⟩) hpb).trans (hpc k u hu)
    clear hpb hpc
    have HNs := Lib.hid (And.intro hn1.2.2 hpn1.2.2)
    have hn9 := hn1.2.1
    have hpn9 := hpn1.2.1
    clear hn1 hpn1
    go_loopw [13] (fun vj wr => ∃ J : Nat, vj = .int .i64 (J : Int) ∧ max 0 (-y) ≤ (J : Int) ∧ J ≤ 1024 ∧ (J ≤ pH ∨ (J : Int) = max 0 (-y)) ∧ PasM W H pW pH n c pn pc A (some ⟨pb, po, none⟩) w B G (.slice (some ⟨gr, 0, none⟩) n c1) (pasTo W H g x y pW p J) wr) (fun vj _ => 4096 - (intOf vj).toNat)
    case atStart => exact ⟨J0, by rw [HJ0.out], by rw [HJ0.out]; exact Int.le_refl _, by have := HJ0.out; omega, .inr HJ0.out.symm, by rw [HST.out]; exact HPM.out⟩
    case round =>
      obtain ⟨J, rfl, hJ1, hJ2, hJ3, hpm⟩ := hrel
      have e1 := hpm.b1.cell 0
      have e2 := hpm.b1.cell 1
      have e3 := hpm.b2.cell 0
      have e4 := hpm.b2.cell 1
      have e5 := hpm.b2.cell 2
      have e6 := hpm.bg.cell 0
      have e7 := hpm.bg.cell 1
      have e8 := hpm.bg.cell 2
      simp only [List.getElem?_toArray, List.getElem?_cons_zero, List.getElem?_cons_succ] at e1 e2 e3 e4 e5 e6 e7 e8
      have lg := hpm.bg.lt
      obtain ⟨r, hr⟩ := Int.eq_ofNat_of_zero_le (show 0 ≤ y + (J : Int) by omega)
      by_cases hin : J < pH ∧ r < H
      · obtain ⟨hjp, hrh⟩ := hin
        by_cases hft : max 0 (-x) < min (pW : Int) ((W : Int) - x)
        · obtain ⟨f, hf⟩ := Int.eq_ofNat_of_zero_le (show 0 ≤ max 0 (-x) by omega)
          obtain ⟨t, ht⟩ := Int.eq_ofNat_of_zero_le (show 0 ≤ min (pW : Int) ((W : Int) - x) by omega)
          have hstep := pasTo_step (g := g) (p := p) (W := W) (H := H) (pW := pW) (pH := pH) (x := x) (y := y) (by rw [HN.out]; exact HNs.out.1) (by rw [HPn.out]; exact HNs.out.2) (by omega) hjp (by omega) (by omega) hf.symm ht.symm (by omega)
          obtain ⟨xf, hxf⟩ := Int.eq_ofNat_of_zero_le (show 0 ≤ x + (f : Int) by omega)
          obtain ⟨xt, hxt⟩ := Int.eq_ofNat_of_zero_le (show 0 ≤ x + (t : Int) by omega)
          rw [hr, hxf, Int.toNat_natCast, Int.toNat_natCast] at hstep
          have hq9 : r * W + W ≤ n := by
            have := Nat.mul_le_mul_right W (show r + 1 ≤ H by omega)
            rw [Nat.succ_mul, Nat.mul_comm H, ← HNs.out.1] at this; exact this
          have hm9 : J * pW + pW ≤ pn := by
            have := Nat.mul_le_mul_right pW (show J + 1 ≤ pH by omega)
            rw [Nat.succ_mul, Nat.mul_comm pH, ← HNs.out.2] at this; exact this
          have hqe : (r : Int) * (W : Int) = ((r * W : Nat) : Int) := by simp
          have hqe1 : ((r : Int) + 1) * (W : Int) = ((r * W + W : Nat) : Int) := by rw [Int.add_mul]; simp
          have hme : (J : Int) * (pW : Int) = ((J * pW : Nat) : Int) := by simp
          have hxo : xt - xf = t - f ∧ xf < xt ∧ xt ≤ W ∧ t ≤ pW ∧ f < t := by omega
          generalize r * W = q at *
          generalize J * pW = m at *
          have HPm := Lib.hid hpm
          have HJ := Lib.hid (And.intro hJ1 hJ3)
          have HStp := Lib.hid hstep
          have HAll := Lib.hid (And.intro hf (And.intro ht (And.intro hr (And.intro hxf hxt))))
          obtain ⟨o1, o2, o3, o4, o5⟩ := hxo
          have HO1 := Lib.hid o1
          clear hpm hJ1 hJ3 hle hstep o1
          obtain ⟨pf, hpf⟩ : ∃ pf, m + f = pf := ⟨_, rfl⟩
          obtain ⟨pt, hpt⟩ : ∃ pt, m + t = pt := ⟨_, rfl⟩
          have c1q : ¬ (c1 = q) := by omega
          have c1x : ¬ (c1 - q = xf) := by omega
          have cpm : ¬ (pc = pf) := by omega
          have k1 : xt ≤ c1 - q := by omega
          have k2 : xf ≤ xt := by omega
          have k3 : pt ≤ pc := by omega
          have k4 : pf ≤ pt := by omega
          have k5 : ((byts ((p.drop pf).take (t - f))).length = Nat.min (pt - pf) (xt - xf)) := by
            have := HPn.out; have := HO1.out
            rw [byts_length, List.length_take, List.length_drop]
            show _ = min _ _
            omega
          have k6 : q + xf + (byts ((p.drop pf).take (t - f))).length ≤ n := by
            rw [byts_length, List.length_take]; omega
          have HK := Lib.hid (And.intro k5 k6)
          clear k5 k6
          have z1 : IntKind.i64.wrap (xf : Int) = xf := IntWalk.i64_in _ (by omega)
          have z2 : IntKind.i64.wrap (xt : Int) = xt := IntWalk.i64_in _ (by omega)
          have z3 : IntKind.i64.wrap (m : Int) = m := IntWalk.i64_in _ (by omega)
          have z4 : IntKind.i64.wrap ((m : Int) + (f : Int)) = pf := by rw [IntWalk.i64_in _ (by omega)]; omega
          have z5 : IntKind.i64.wrap ((m : Int) + (t : Int)) = pt := by rw [IntWalk.i64_in _ (by omega)]; omega
          have HPf := Lib.hid (And.intro hpf hpt)
          have HS7 : Hid (∀ j v, (byts ((p.drop pf).take (t - f)))[j]? = some v → wr.cell? ((⟨pb, po + pf, none⟩ : Addr).add j) = some v) := fun j v hv => by
            rw [add_plain, Nat.add_assoc]
            refine HSrc.out wr HPm.out.be _ _ ?_
            unfold byts at hv ⊢
            rw [List.map_take, List.map_drop, List.getElem?_take] at hv
            split at hv
            · rw [List.getElem?_drop] at hv; exact hv
            · cases hv
          clear hpf hpt
          go_wp2
          go_region
          all_goals
            go_wp2
            go_region_law (refine step_copy_row rfl (.tmp 105) (.tmp 120) 50 50 (by rfl) 5 Try.underlying50 (by kernel_rfl) (some ⟨gr, q + xf, none⟩) (some ⟨pb, po + pf, none⟩) (xt - xf) (c1 - q - xf) (pt - pf) (pc - pf) (by rfl) (by rfl) B gr (q + xf) n c1 5 (byts (pasTo W H g x y pW p J)) HPm.out.own.drew.drew (byts ((p.drop pf).take (t - f))) HK.out.1 rfl ⟨_, rfl, HS7.out⟩ HK.out.2 (byts_one _) ?_; intro w7 ho7 hg7)
            clear z1 z2 z3 z4 z5
            go_wp2
            all_goals
              obtain ⟨hJ1, hJ3⟩ := HJ.out
              refine ⟨⟨J + 1, by go_num, by omega, by omega, .inl (by omega), HPm.out.drew.drew.copied rfl ?_ hg7.out⟩, by simp [intOf]; omega⟩
              rw [show ((J + 1 : Nat) : Int) = (J : Int) + 1 from by omega, HStp.out, HPf.out.1, ← byts_splice]
              exact ho7.out
        · have hskip := pasTo_skip (g := g) (p := p) (W := W) (H := H) (pW := pW) (x := x) (y := y) (j := J) (by omega) hft
          obtain ⟨f, hf⟩ : ∃ f : Int, max 0 (-x) = f := ⟨_, rfl⟩
          obtain ⟨tt, htt⟩ : ∃ tt : Int, min (pW : Int) ((W : Int) - x) = tt := ⟨_, rfl⟩
          rw [hf, htt] at hft
          have hdf : decide (f < tt) = false := decide_eq_false hft
          have HPm := Lib.hid hpm
          have HJ := Lib.hid (And.intro hJ1 hJ3)
          have HStp := Lib.hid hskip
          clear hpm hJ1 hJ3 hle hskip
          go_wp2
          go_region
          all_goals
            go_wp2
            go_roundw
            case rel =>
              obtain ⟨hJ1, hJ3⟩ := HJ.out
              refine ⟨J + 1, by go_num, by omega, by omega, .inl (by omega), ?_⟩
              rw [show ((J + 1 : Nat) : Int) = (J : Int) + 1 from by omega, HStp.out]
              exact HPm.out.drew
            case measure => simp [intOf]; omega
      · have hfin := pasTo_fin (g := g) (p := p) (W := W) (H := H) (pW := pW) (pH := pH) (x := x) (y := y) (by rw [HN.out]; exact HNs.out.1) hJ3 hr hin
        rw [hfin] at hpm
        have e9 := hpm.b3.cell 0
        have e10 := hpm.b3.cell 1
        have e11 := hpm.b3.cell 2
        simp only [List.getElem?_toArray, List.getElem?_cons_zero, List.getElem?_cons_succ] at e9 e10 e11
        have f9 := hpm.b3.frozen 0
        have f10 := hpm.b3.frozen 1
        have f11 := hpm.b3.frozen 2
        have l3 := hpm.b3.lt
        have hGe := hpm.hG
        have hBe := hpm.hB
        have HPm := Lib.hid hpm
        clear hpm hJ1 hJ3 hle hfin
        have HPl9 : Hid ((pasL W H g x y pW pH p).length = n) := by
          show _ = _; unfold pasL; rw [pasTo_length]; exact HNs.out.1.symm
        by_cases hjp : J < pH
        · have hrh : ¬ r < H := fun h => hin ⟨hjp, h⟩
          have hd2 : decide (r < H) = false := decide_eq_false hrh
          clear hin
          go_wp2
          refine bodyPost_ret (v := .tuple #[.agg #[.int .i64 W, .int .i64 H, .slice (some ⟨gr, 0, none⟩) n c1], .int .i64 0]) (by simp [results, Try.results40, go_sem, e9, e10, e11, World.cell?_setCell_other, World.cell?_setCell_same]) rfl ?_
          rw [HP.out]
          refine ⟨_, rfl, ?_, ?_⟩
          · rw [HPl9.out]
            exact own_base (own_setCell (own_setCell (own_setCell HPm.out.own (p := ⟨w.heap.size + 1 + 1, 0, none⟩) (.inl hBe) _) (p := ⟨w.heap.size + 1 + 1, 1, none⟩) (.inl hBe) _) (p := ⟨w.heap.size + 1 + 1, 2, none⟩) (.inl hBe) _) (by omega)
          · exact ((HPm.out.be.setCell (p := ⟨w.heap.size + 1 + 1, 0, none⟩) (by simp; omega) _).setCell (p := ⟨w.heap.size + 1 + 1, 1, none⟩) (by simp; omega) _).setCell (p := ⟨w.heap.size + 1 + 1, 2, none⟩) (by simp; omega) _
        · have hd1 : decide (J < pH) = false := decide_eq_false hjp
          clear hin
          go_wp2
          refine bodyPost_ret (v := .tuple #[.agg #[.int .i64 W, .int .i64 H, .slice (some ⟨gr, 0, none⟩) n c1], .int .i64 0]) (by simp [results, Try.results40, go_sem, e9, e10, e11, World.cell?_setCell_other, World.cell?_setCell_same]) rfl ?_
          rw [HP.out]
          refine ⟨_, rfl, ?_, ?_⟩
          · rw [HPl9.out]
            exact own_base (own_setCell (own_setCell (own_setCell HPm.out.own (p := ⟨w.heap.size + 1 + 1, 0, none⟩) (.inl hBe) _) (p := ⟨w.heap.size + 1 + 1, 1, none⟩) (.inl hBe) _) (p := ⟨w.heap.size + 1 + 1, 2, none⟩) (.inl hBe) _) (by omega)
          · exact ((HPm.out.be.setCell (p := ⟨w.heap.size + 1 + 1, 0, none⟩) (by simp; omega) _).setCell (p := ⟨w.heap.size + 1 + 1, 1, none⟩) (by simp; omega) _).setCell (p := ⟨w.heap.size + 1 + 1, 2, none⟩) (by simp; omega) _
end Go.Proofs.Ytjcijogdcafloaa
