/- The walk of fold: one fold of a sheet. -/
import Derived.Test.YtjmanooedgfbaaaDoorFlat
import Derived.Test.YtjmanooedgfbaaaDoorFlip
import Derived.Deep.RegionHeld3
import Derived.Deep.DrawnRows
import Derived.Deep.RegionLaw
import Derived.Deep.DeepCutAuto
import Derived.Deep.QuietTactic
import Derived.BigQuiet
namespace Go.Proofs.YtjmanooedgfbaaaDoor
open Go.RowKit
/-- What fold has in memory. -/
structure FM (S : Sheet) (side line : Int) (over : Bool) (vS : Value) (nc nr B : Nat) (w wr : World) (v : Value) (vals : List Value) (ps : List (List Leaf)) : Prop where
  b0 : Blk wr w.heap.size 67 #[.int .i64 (S.cols : Int), .int .i64 (S.rows : Int), vS]
  b1 : Blk wr (w.heap.size + 1) 33 #[.int .i64 side, .int .i64 line, .bool over]
  b2 : Blk wr (w.heap.size + 2) 67 #[.int .i64 0, .int .i64 0, .slice none 0 0]
  b3 : Blk wr B 67 #[.int .i64 (nc : Int), .int .i64 (nr : Int), v]
  pb : PB (B + 1) wr v vals ps
  be : Below w.heap.size w wr
  hB : w.heap.size + 3 ≤ B
theorem FM.later {S : Sheet} {side line : Int} {over : Bool} {vS : Value} {nc nr B : Nat} {w wr w' : World} {v : Value} {vals : List Value} {ps : List (List Leaf)} (h : FM S side line over vS nc nr B w wr v vals ps) (hb : Below wr.heap.size wr w') : FM S side line over vS nc nr B w w' v vals ps :=
  ⟨h.b0.below hb h.b0.lt, h.b1.below hb h.b1.lt, h.b2.below hb h.b2.lt, h.b3.below hb h.b3.lt, h.pb.later hb, h.be.trans (hb.mono h.be.size), h.hB⟩
theorem FM.push {S : Sheet} {side line : Int} {over : Bool} {vS : Value} {nc nr B : Nat} {w wr wa w1 : World} {v v1 u : Value} {vals : List Value} {ps : List (List Leaf)} {p : List Leaf} {ob : Obj} (h : FM S side line over vS nc nr B w wr v vals ps) (hw : Below wr.heap.size wr wa)
    (hu : Lv wa (fun b => wr.heap.size ≤ b) u p) (hown : w1.ownsRow (B + 1) 58 1 v1 (vals.length + 1) (vals ++ [u])) (hg : (wa.alloc ob).grownBy w1 v.ownBlock) (hk : v1.ownBlock = v.ownBlock ∨ v1.ownBlock = some (wa.alloc ob).heap.size) :
    w1.cell? ⟨B, 2, none⟩ = some v ∧ w1.frozen? ⟨B, 2, none⟩ = false ∧ B < w1.heap.size ∧ FM S side line over vS nc nr B w (w1.setCell ⟨B, 2, none⟩ v1) v1 (vals ++ [u]) (ps ++ [p]) := by
  have hlt := h.b3.lt
  have hp := h.pb.push hw (by omega) hu hown hg hk
  have h' := h.later hw
  obtain ⟨b0, b1, b2, b3, pb, be, hB⟩ := h'
  have hne : ∀ b, b < B + 1 → some b ≠ v.ownBlock := fun b hb e => by have := (own_lt pb.own b e.symm).1; omega
  have h2 : Blk w1 B 67 #[.int .i64 (nc : Int), .int .i64 (nr : Int), v] := (b3.alloc ob).grown hg (hne _ (by omega))
  refine ⟨h2.cell 2, h2.frozen 2, h2.lt, ?_, ?_, ?_, ?_, ?_, ?_, hB⟩
  · exact ((b0.alloc ob).grown hg (hne _ (by omega))).far (by simp; omega) _
  · exact ((b1.alloc ob).grown hg (hne _ (by omega))).far (by simp; omega) _
  · exact ((b2.alloc ob).grown hg (hne _ (by omega))).far (by simp; omega) _
  · have := h2.put 2 v1; simpa using this
  · exact hp.far (p := ⟨B, 2, none⟩) (by simp) v1
  · exact ((be.alloc be.size ob).grown hg (le_alloc be.size _) fun k hk => by have := (own_lt pb.own k hk).1; omega).setCell (p := ⟨B, 2, none⟩) (by simp; omega) _
set_option maxRecDepth 100000 in
set_option maxHeartbeats 8000000 in
theorem fold_any {ok : Nat → Prop} (S : Sheet) (f : Step) (v : Value) (vals : List Value) (w : World) (h : Pl ok w v vals (pilesOf S)) (hs : Small S 8 8) (hok : okStep S f) (hlen : ∀ c r, (pileAt S c r).length ≤ 1000) :
    Calls Tryd.prog 22 #[.agg #[.int .i64 (S.cols : Int), .int .i64 (S.rows : Int), v], .agg #[.int .i64 f.side, .int .i64 f.line, .bool f.over]] w (SheetPost (foldS S f) w) := by
  have HP : Hid (∀ e w', SheetPost (foldS S f) w e w' = ∃ v vals, e = .returned (.agg #[.int .i64 ((foldS S f).cols : Int), .int .i64 ((foldS S f).rows : Int), v]) ∧ Pl (fun b => w.heap.size ≤ b) w' v vals (pilesOf (foldS S f)) ∧ Below w.heap.size w w') := fun _ _ => rfl
  generalize SheetPost (foldS S f) w = Post at *
  have HPl := Lib.hid h
  have HLen := Lib.hid hlen
  have hsf := small_fold hok hs
  obtain ⟨Ao, no, co, hv⟩ : ∃ A n c, v = .slice A n c := by obtain ⟨A, c, e⟩ := h.out.form; exact ⟨_, _, _, e⟩
  obtain ⟨s1, s2, s3, s4⟩ := hs
  obtain ⟨f1, f2, f3, f4⟩ := hsf
  obtain ⟨_, _, k1, k2⟩ := hok
  obtain ⟨k, hk⟩ := Int.eq_ofNat_of_zero_le (show 0 ≤ f.line by omega)
  obtain ⟨side, line, over⟩ := f
  dsimp only at hk k1 k2 ⊢
  subst hk
  generalize hF : (⟨side, (k : Int), over⟩ : Step) = F at *
  have hn8 : ext S F ≤ 8 := by unfold ext; split <;> omega
  have hsz : Hid (sizeOf_ (ext S F) k = max k (ext S F - k)) := rfl
  have hsz8 : sizeOf_ (ext S F) k ≤ 8 := by rw [hsz.out]; omega
  have hline : F.line.toNat = k := by rw [← hF]; rfl
  have hcols : Hid ((foldS S F).cols = if acr F then sizeOf_ (ext S F) k else S.cols) := by unfold Hid foldS; rw [hline]
  have hrows : Hid ((foldS S F).rows = if acr F then S.rows else sizeOf_ (ext S F) k) := by unfold Hid foldS; rw [hline]
  have HE : Hid (∀ w, Calls Tryd.prog 21 #[.agg #[.int .i64 (S.cols : Int), .int .i64 (S.rows : Int), v], .agg #[.int .i64 side, .int .i64 (k : Int), .bool over]] w fun e w' => e = .returned (.int .i64 (ext S F : Nat)) ∧ Below w.heap.size w w') := by
    intro w; have := extent_any F S v Ao no co hv w; rw [← hF] at this ⊢; exact this
  have HA : Hid (∀ w, Calls Tryd.prog 28 #[.agg #[.int .i64 side, .int .i64 (k : Int), .bool over]] w fun e w' => e = .returned (.bool (acr F)) ∧ w.alloc (.cells #[.int .i64 side, .int .i64 (k : Int), .bool over] 33) = w') := by
    intro w; have := across_any F w; rw [← hF] at this ⊢; exact this
  have hfst : Hid (fst F = (side == 0 || side == 2)) := by rw [← hF]; rfl
  have hpile : Hid (∀ c r, (foldS S F).P c r = if acr F then joinP over (flipL true (pileAt S (mvd (fst F) (sizeOf_ (ext S F) k) k c) r)) (pileAt S (fxd (fst F) (sizeOf_ (ext S F) k) k c) r)
      else joinP over (flipL false (pileAt S c (mvd (fst F) (sizeOf_ (ext S F) k) k r))) (pileAt S c (fxd (fst F) (sizeOf_ (ext S F) k) k r))) := by
    intro c r; rw [← hF]; rfl
  clear h hlen hline
  generalize hnc : (foldS S F).cols = nc at *
  generalize hnr : (foldS S F).rows = nr at *
  have HNC := Lib.hid hnc
  have HNR := Lib.hid hnr
  have HV := Lib.hid hv
  have HF := Lib.hid hF
  clear hnc hnr hF
  generalize ext S F = n at *
  generalize sizeOf_ n k = sz at *
  generalize acr F = ac at *
  generalize fst F = fs at *
  subst hv
  have hb0 := Lib.hid ((((Below.refl w.heap.size w).alloc (Nat.le_refl _) (Obj.cells #[.int .i64 (S.cols : Int), .int .i64 (S.rows : Int), .slice Ao no co] 67)).alloc (by simp) (Obj.cells #[.int .i64 side, .int .i64 (k : Int), .bool over] 33)).alloc (by simp; omega) (Obj.cells #[.int .i64 0, .int .i64 0, .slice none 0 0] 67))
  have hblk0 := Lib.hid (((Blk.new w 67 #[.int .i64 (S.cols : Int), .int .i64 (S.rows : Int), .slice Ao no co]).alloc (Obj.cells #[.int .i64 side, .int .i64 (k : Int), .bool over] 33)).alloc (Obj.cells #[.int .i64 0, .int .i64 0, .slice none 0 0] 67))
  have hblk1 := Lib.hid ((Blk.new (w.alloc (Obj.cells #[.int .i64 (S.cols : Int), .int .i64 (S.rows : Int), .slice Ao no co] 67)) 33 #[.int .i64 side, .int .i64 (k : Int), .bool over]).alloc (Obj.cells #[.int .i64 0, .int .i64 0, .slice none 0 0] 67))
  have hblk2 := Lib.hid (Blk.new ((w.alloc (Obj.cells #[.int .i64 (S.cols : Int), .int .i64 (S.rows : Int), .slice Ao no co] 67)).alloc (Obj.cells #[.int .i64 side, .int .i64 (k : Int), .bool over] 33)) 67 #[.int .i64 0, .int .i64 0, .slice none 0 0])
  go_enter Tryd.func22, Tryd.ntmps22
  go_wp2_with fail
  refine (HE.out _).mono ?_; rintro e w1 ⟨rfl, hb1⟩
  have hbe : Below w.heap.size w w1 := hb0.out.trans (hb1.mono hb0.out.size)
  have B0 : Blk w1 w.heap.size 67 #[.int .i64 (S.cols : Int), .int .i64 (S.rows : Int), .slice Ao no co] := hblk0.out.below hb1 hblk0.out.lt
  have B1 : Blk w1 (w.heap.size + 1) 33 #[.int .i64 side, .int .i64 (k : Int), .bool over] := by have := hblk1.out.below hb1 hblk1.out.lt; simpa using this
  have B2 : Blk w1 (w.heap.size + 2) 67 #[.int .i64 0, .int .i64 0, .slice none 0 0] := by have := hblk2.out.below hb1 hblk2.out.lt; simpa using this
  have HB1 := Lib.hid hb1
  clear hb1
  have x0 : w1.cell? ⟨w.heap.size, 0, none⟩ = some (.int .i64 (S.cols : Int)) := B0.cell 0
  have x1 : w1.cell? ⟨w.heap.size, 1, none⟩ = some (.int .i64 (S.rows : Int)) := B0.cell 1
  have x2 : w1.cell? ⟨w.heap.size, 2, none⟩ = some (.slice Ao no co) := B0.cell 2
  have y0 : w1.cell? ⟨w.heap.size + 1, 0, none⟩ = some (.int .i64 side) := B1.cell 0
  have y1 : w1.cell? ⟨w.heap.size + 1, 1, none⟩ = some (.int .i64 (k : Int)) := B1.cell 1
  have y2 : w1.cell? ⟨w.heap.size + 1, 2, none⟩ = some (.bool over) := B1.cell 2
  have HBE := Lib.hid hbe
  have HB0 := Lib.hid B0
  have HBl1 := Lib.hid B1
  have HBl2 := Lib.hid B2
  have hz2 := B2.lt
  have hz1 : w.heap.size + 1 < w1.heap.size := by omega
  have hz0 : w.heap.size < w1.heap.size := by omega
  clear hbe B0 B1 B2 hblk0 hblk1 hblk2 hb0
  go_upto_region 3 with (fail)
  obtain ⟨v6, hv6⟩ : ∃ z : Int, z = max (k : Int) ((n : Int) - k) := ⟨_, rfl⟩
  rw [← hv6]
  obtain rfl : v6 = (sz : Int) := by rw [hv6]; have := hsz.out; omega
  clear hv6
  go_upto_if 32 with (go_at_call 28; refine (HA.out _).mono ?_; rintro e w2 ⟨rfl, rfl⟩)
  have base : ∀ (a b : Nat), a = nc → b = nr → FM S side (k : Int) over (.slice Ao no co) nc nr w1.heap.size w ((w1.alloc (Obj.cells #[.int .i64 (a : Int), .int .i64 (b : Int), .slice none 0 0] 67)).alloc (Obj.cells #[.int .i64 side, .int .i64 (k : Int), .bool over] 33)) (.slice none 0 0) [] [] := by
    rintro a b rfl rfl
    have hb2 : Below w1.heap.size w1 ((w1.alloc (Obj.cells #[.int .i64 (a : Int), .int .i64 (b : Int), .slice none 0 0] 67)).alloc (Obj.cells #[.int .i64 side, .int .i64 (k : Int), .bool over] 33)) := ((Below.refl _ _).alloc (Nat.le_refl _) _).alloc (by simp) _
    exact ⟨HB0.out.below hb2 HB0.out.lt, HBl1.out.below hb2 HBl1.out.lt, HBl2.out.below hb2 HBl2.out.lt, (Blk.new w1 67 #[.int .i64 (a : Int), .int .i64 (b : Int), .slice none 0 0]).alloc _, PB.nil _ _, HBE.out.trans (hb2.mono HBE.out.size), by omega⟩
  have HBa := Lib.hid base
  clear base
  go_cut [] (fun wx => FM S side (k : Int) over (.slice Ao no co) nc nr w1.heap.size w wx (.slice none 0 0) [] [])
  case first =>
    cases ac
    · go_wp2
      go_meet
      exact HBa.out _ _ (by rw [hcols.out]; rfl) (by rw [hrows.out]; rfl)
    · go_wp2
      go_meet
      exact HBa.out _ _ (by rw [hcols.out]; rfl) (by rw [hrows.out]; rfl)
  case rest =>
  clear x0 x1 x2 y0 y1 y2 hz0 hz1 hz2 HBa
  have y0 : wc.cell? ⟨w.heap.size + 1, 0, none⟩ = some (.int .i64 side) := hcut.b1.cell 0
  have HC := Lib.hid hcut
  clear hcut
  go_upto_region 7 with (fail)
  go_cut [8] (fun v8 wx => v8 = .bool fs ∧ wx = wc)
  case first =>
    by_cases hs0 : side = 0
    · have e0 : (side == 0) = true := by rw [hs0]; rfl
      have hf : Hid (fs = true) := by unfold Hid; rw [hfst.out, e0]; rfl
      go_wp2
      go_meet
      exact ⟨by rw [hf.out], rfl⟩
    · have e0 : (side == 0) = false := by rw [beq_eq_false_iff_ne]; exact hs0
      have hf : Hid (fs = (side == 2)) := by unfold Hid; rw [hfst.out, e0]; rfl
      go_wp2
      go_meet
      exact ⟨by rw [hf.out], rfl⟩
  case rest =>
  obtain ⟨rfl, rfl⟩ := hcut
  clear y0
  have z1 : wc.cell? ⟨w1.heap.size, 1, none⟩ = some (.int .i64 (nr : Int)) := HC.out.b3.cell 1
  go_wp2
  clear z1
  go_loopw [47] (fun vr wr => ∃ (r : Nat) (v : Value) (vals : List Value), r ≤ nr ∧ vr = .int .i64 r ∧ FM S side (k : Int) over (.slice Ao no co) nc nr w1.heap.size w wr v vals (rowsTo (foldS S F) r)) (fun r _ => nr - (intOf r).toNat)
  case atStart => exact ⟨0, _, _, by omega, rfl, HC.out⟩
  case round =>
    obtain ⟨r, v, vals1, hr, rfl, hm⟩ := hrel
    by_cases hlt : r < nr
    · have z0 : wr.cell? ⟨w1.heap.size, 0, none⟩ = some (.int .i64 (nc : Int)) := hm.b3.cell 0
      have HM := Lib.hid hm
      clear hm
      go_wp2
      clear z0
      obtain ⟨wo, rfl⟩ : ∃ wo : World, wo = wr := ⟨_, rfl⟩
      go_loopw [52] (fun vc wr => ∃ (c : Nat) (v : Value) (vals : List Value), c ≤ nc ∧ vc = .int .i64 c ∧ FM S side (k : Int) over (.slice Ao no co) nc nr w1.heap.size w wr v vals (colsTo (foldS S F) r c)) (fun c _ => nc - (intOf c).toNat)
      case atStart => exact ⟨0, v, vals1, by omega, rfl, by rw [colsTo_zero]; exact HM.out⟩
      case round =>
        obtain ⟨c, v, vals1, hc, rfl, hm⟩ := hrel
        by_cases hltc : c < nc
        · have y0 : wr.cell? ⟨w.heap.size + 1, 0, none⟩ = some (.int .i64 side) := hm.b1.cell 0
          have y1 : wr.cell? ⟨w.heap.size + 1, 1, none⟩ = some (.int .i64 (k : Int)) := hm.b1.cell 1
          have y2 : wr.cell? ⟨w.heap.size + 1, 2, none⟩ = some (.bool over) := hm.b1.cell 2
          have HM2 := Lib.hid (hm.later ((Below.refl _ _).alloc (Nat.le_refl _) (Obj.cells #[.int .i64 side, .int .i64 (k : Int), .bool over] 33)))
          clear hm
          go_upto_if 57 with (go_at_call 28; refine (HA.out _).mono ?_; rintro e w2 ⟨rfl, rfl⟩)
          go_cut [11] (fun v11 wx => v11 = .int .i64 ((if ac then c else r : Nat) : Int) ∧ FM S side (k : Int) over (.slice Ao no co) nc nr w1.heap.size w wx v vals1 (colsTo (foldS S F) r c))
          case first =>
            cases ac
            all_goals
              go_wp2
              go_meet
              exact ⟨rfl, HM2.out⟩
          case rest =>
          obtain ⟨rfl, hm⟩ := hcut
          clear y0 y1 y2 HM2
          have hi0 : (if ac then c else r : Nat) < sz := by
            have h1 := hcols.out
            have h2 := hrows.out
            cases ac
            · simp only [Bool.false_eq_true, if_false] at h2 ⊢; omega
            · simp only [if_true] at h1 ⊢; omega
          generalize hi : (if ac then c else r : Nat) = i0 at *
          have HI := Lib.hid hi
          clear hi
          have HM := Lib.hid hm
          clear hm
          go_upto_if 60 with (fail)
          go_cut [11] (fun v11 wx => v11 = .int .i64 ((if fs then i0 else sz - 1 - i0 : Nat) : Int) ∧ wx = wc)
          case first =>
            cases fs
            · go_wp2
              go_meet
              exact ⟨valInt (by simp; omega), rfl⟩
            · go_wp2
              go_meet
              exact ⟨rfl, rfl⟩
          case rest =>
          obtain ⟨rfl, rfl⟩ := hcut
          have hi1 : (if fs then i0 else sz - 1 - i0 : Nat) < 8 := by split <;> omega
          generalize hi : (if fs then i0 else sz - 1 - i0 : Nat) = i1 at *
          have HI1 := Lib.hid hi
          clear hi
          have y1 : wc.cell? ⟨w.heap.size + 1, 1, none⟩ = some (.int .i64 (k : Int)) := HM.out.b1.cell 1
          have e1 : IntKind.i64.wrap ((k : Int) - 1) = (k : Int) - 1 := by rw [IntKind.wrap_i64]; omega
          have e2 : IntKind.i64.wrap ((k : Int) - 1 - (i1 : Int)) = (k : Int) - 1 - (i1 : Int) := by rw [IntKind.wrap_i64]; omega
          have e3 : IntKind.i64.wrap ((k : Int) + (i1 : Int)) = (k : Int) + (i1 : Int) := by rw [IntKind.wrap_i64]; omega
          go_wp2_with fail
          go_quiet (fail)
          clear e1 e2 e3 y1
          have HMd := Lib.hid (HM.out.later (below_drewN (Below.refl wc.heap.size wc) nq))
          generalize wc.drewN nq = wd at *
          go_upto_if 75 with (fail)
          go_cut [12, 13] (fun v12 v13 wx => v12 = .int .i64 (mvd fs sz k i0) ∧ v13 = .int .i64 (fxd fs sz k i0) ∧ wx = wd)
          case first =>
            have hI := HI1.out
            cases fs
            · simp only [Bool.false_eq_true, if_false] at hI
              have HI2 := Lib.hid hI
              clear hI
              go_wp2
              go_meet
              refine ⟨valInt ?_, valInt ?_, rfl⟩
              · have := HI2.out; simp only [mvd, Bool.false_eq_true, if_false]; omega
              · have := HI2.out; simp only [fxd, Bool.false_eq_true, if_false]; omega
            · simp only [if_true] at hI
              have HI2 := Lib.hid hI
              clear hI
              go_wp2
              go_meet
              refine ⟨valInt ?_, valInt ?_, rfl⟩
              · have := HI2.out; simp only [mvd, if_true]; omega
              · have := HI2.out; simp only [fxd, if_true]; omega
          case rest =>
          obtain ⟨rfl, rfl, rfl⟩ := hcut
          have m1 : -20 ≤ mvd fs sz k i0 ∧ mvd fs sz k i0 ≤ 20 := by unfold mvd; split <;> omega
          have m2 : -20 ≤ fxd fs sz k i0 ∧ fxd fs sz k i0 ≤ 20 := by unfold fxd; split <;> omega
          generalize hmv : mvd fs sz k i0 = mv at *
          generalize hfx : fxd fs sz k i0 = fx at *
          obtain ⟨m10, m11⟩ := m1
          obtain ⟨m20, m21⟩ := m2
          have HMV := Lib.hid hmv
          have HFX := Lib.hid hfx
          clear hmv hfx
          have hS0 : wc.drew.cell? ⟨w.heap.size, 0, none⟩ = some (.int .i64 (S.cols : Int)) ∧ wc.drew.cell? ⟨w.heap.size, 1, none⟩ = some (.int .i64 (S.rows : Int)) ∧ wc.drew.cell? ⟨w.heap.size, 2, none⟩ = some (.slice Ao no co) ∧ Below wc.heap.size wc wc.drew := ⟨HMd.out.b0.cell 0, HMd.out.b0.cell 1, HMd.out.b0.cell 2, (Below.refl _ _).drew⟩
          have HKp : Hid (∀ (w' : World) (o : Obj), (w'.cell? ⟨w.heap.size, 0, none⟩ = some (.int .i64 (S.cols : Int)) ∧ w'.cell? ⟨w.heap.size, 1, none⟩ = some (.int .i64 (S.rows : Int)) ∧ w'.cell? ⟨w.heap.size, 2, none⟩ = some (.slice Ao no co) ∧ Below wc.heap.size wc w') →
              ((w'.alloc o).cell? ⟨w.heap.size, 0, none⟩ = some (.int .i64 (S.cols : Int)) ∧ (w'.alloc o).cell? ⟨w.heap.size, 1, none⟩ = some (.int .i64 (S.rows : Int)) ∧ (w'.alloc o).cell? ⟨w.heap.size, 2, none⟩ = some (.slice Ao no co) ∧ Below wc.heap.size wc (w'.alloc o))) := by
            rintro w' o ⟨a0, a1, a2, a3⟩
            have hlt : w.heap.size < w'.heap.size := Nat.lt_of_lt_of_le HMd.out.b0.lt a3.size
            exact ⟨(World.cell?_alloc_lt w' o _ hlt).trans a0, (World.cell?_alloc_lt w' o _ hlt).trans a1, (World.cell?_alloc_lt w' o _ hlt).trans a2, a3.alloc a3.size _⟩
          have HPw : Hid (∀ w', (w'.cell? ⟨w.heap.size, 0, none⟩ = some (.int .i64 (S.cols : Int)) ∧ w'.cell? ⟨w.heap.size, 1, none⟩ = some (.int .i64 (S.rows : Int)) ∧ w'.cell? ⟨w.heap.size, 2, none⟩ = some (.slice Ao no co) ∧ Below wc.heap.size wc w') → Pl ok w' (.slice Ao no co) vals (pilesOf S)) := fun w' hS => (HPl.out.later HMd.out.be).later hS.2.2.2
          go_wp2_with fail
          go_region_held3 (fun w' => w'.cell? ⟨w.heap.size, 0, none⟩ = some (.int .i64 (S.cols : Int)) ∧ w'.cell? ⟨w.heap.size, 1, none⟩ = some (.int .i64 (S.rows : Int)) ∧ w'.cell? ⟨w.heap.size, 2, none⟩ = some (.slice Ao no co) ∧ Below wc.heap.size wc w')
            (first | exact hS0 | (exact HKp.out _ _ (by first | assumption | exact ⟨by assumption, by assumption, by assumption, by assumption⟩)))
            (first | (go_at_call 29; refine (pile_any S _ vals _ _ _ (HPw.out _ (by first | assumption | exact ⟨by assumption, by assumption, by assumption, by assumption⟩)) s2 s4 ⟨by omega, by omega⟩ ⟨by omega, by omega⟩).mono ?_; rintro e w' ⟨rfl, rfl⟩))
          have hb2 : Below wc.heap.size wc (((wc.alloc (Obj.cells #[.int .i64 (S.cols : Int), .int .i64 (S.rows : Int), .slice Ao no co] 67)).alloc (Obj.cells #[.int .i64 (S.cols : Int), .int .i64 (S.rows : Int), .slice Ao no co] 67)).drew) := (((Below.refl _ _).alloc (Nat.le_refl _) _).alloc (by simp) _).drew
          have HM2 := Lib.hid (HMd.out.later hb2)
          have HS2 : Hid (((((wc.alloc (Obj.cells #[.int .i64 (S.cols : Int), .int .i64 (S.rows : Int), .slice Ao no co] 67)).alloc (Obj.cells #[.int .i64 (S.cols : Int), .int .i64 (S.rows : Int), .slice Ao no co] 67)).drew).alloc (Obj.cells #[.int .i64 side, .int .i64 (k : Int), .bool over] 33)).drew.cell? ⟨w.heap.size, 0, none⟩ = some (.int .i64 (S.cols : Int)) ∧ ((((wc.alloc (Obj.cells #[.int .i64 (S.cols : Int), .int .i64 (S.rows : Int), .slice Ao no co] 67)).alloc (Obj.cells #[.int .i64 (S.cols : Int), .int .i64 (S.rows : Int), .slice Ao no co] 67)).drew).alloc (Obj.cells #[.int .i64 side, .int .i64 (k : Int), .bool over] 33)).drew.cell? ⟨w.heap.size, 1, none⟩ = some (.int .i64 (S.rows : Int)) ∧ ((((wc.alloc (Obj.cells #[.int .i64 (S.cols : Int), .int .i64 (S.rows : Int), .slice Ao no co] 67)).alloc (Obj.cells #[.int .i64 (S.cols : Int), .int .i64 (S.rows : Int), .slice Ao no co] 67)).drew).alloc (Obj.cells #[.int .i64 side, .int .i64 (k : Int), .bool over] 33)).drew.cell? ⟨w.heap.size, 2, none⟩ = some (.slice Ao no co) ∧ Below wc.heap.size wc ((((wc.alloc (Obj.cells #[.int .i64 (S.cols : Int), .int .i64 (S.rows : Int), .slice Ao no co] 67)).alloc (Obj.cells #[.int .i64 (S.cols : Int), .int .i64 (S.rows : Int), .slice Ao no co] 67)).drew).alloc (Obj.cells #[.int .i64 side, .int .i64 (k : Int), .bool over] 33)).drew) := by
            have h1 := HKp.out _ (Obj.cells #[.int .i64 side, .int .i64 (k : Int), .bool over] 33) ⟨HM2.out.b0.cell 0, HM2.out.b0.cell 1, HM2.out.b0.cell 2, hb2⟩
            exact ⟨h1.1, h1.2.1, h1.2.2.1, h1.2.2.2.drew⟩
          have HB2 := Lib.hid hb2
          clear hS0 hb2
          generalize ((wc.alloc (Obj.cells #[.int .i64 (S.cols : Int), .int .i64 (S.rows : Int), .slice Ao no co] 67)).alloc (Obj.cells #[.int .i64 (S.cols : Int), .int .i64 (S.rows : Int), .slice Ao no co] 67)).drew = wd at *
          have y0 : wd.cell? ⟨w.heap.size + 1, 0, none⟩ = some (.int .i64 side) := HM2.out.b1.cell 0
          have y1 : wd.cell? ⟨w.heap.size + 1, 1, none⟩ = some (.int .i64 (k : Int)) := HM2.out.b1.cell 1
          have y2 : wd.cell? ⟨w.heap.size + 1, 2, none⟩ = some (.bool over) := HM2.out.b1.cell 2
          have hr8 : (r : Int) ≤ 20 := by omega
          have hc8 : (c : Int) ≤ 20 := by omega
          go_upto_if 87 with (go_at_call 28; refine (HA.out _).mono ?_; rintro e w2 ⟨rfl, rfl⟩)
          go_cut [14, 15] (fun v14 v15 wx => v14 = (if ac then pv vals S mv r else pv vals S c mv) ∧ v15 = (if ac then pv vals S fx r else pv vals S c fx) ∧ FM S side (k : Int) over (.slice Ao no co) nc nr w1.heap.size w wx v vals1 (colsTo (foldS S F) r c))
          case first =>
            cases ac
            · go_wp2
              go_meet
              exact ⟨rfl, rfl, HM2.out.later ((Below.refl _ _).alloc (Nat.le_refl _) _)⟩
            · have hS1 := HS2.out
              go_wp2_with fail
              go_region_held3 (fun w' => w'.cell? ⟨w.heap.size, 0, none⟩ = some (.int .i64 (S.cols : Int)) ∧ w'.cell? ⟨w.heap.size, 1, none⟩ = some (.int .i64 (S.rows : Int)) ∧ w'.cell? ⟨w.heap.size, 2, none⟩ = some (.slice Ao no co) ∧ Below wc.heap.size wc w')
                (first | exact hS1 | (exact HKp.out _ _ (by first | assumption | exact ⟨by assumption, by assumption, by assumption, by assumption⟩)))
                (first | (go_at_call 29; refine (pile_any S _ vals _ _ _ (HPw.out _ (by first | assumption | exact ⟨by assumption, by assumption, by assumption, by assumption⟩)) s2 s4 ⟨by omega, by omega⟩ ⟨by omega, by omega⟩).mono ?_; rintro e w' ⟨rfl, rfl⟩))
              go_wp2
              go_meet
              refine ⟨rfl, rfl, HM2.out.later ?_⟩
              exact (((((Below.refl _ _).alloc (Nat.le_refl _) _).alloc (by simp) _).alloc (by simp; omega) _).drew)
          case rest =>
          obtain ⟨hv14, hv15, hm⟩ := hcut
          clear HS2 HB2 HKp HPw hr8 hc8 y0 y1 y2 HM2 HMd
          have hpw := HPl.out.later hm.be
          have la : Lv wc (fun _ => True) u14 (if ac then pileAt S mv r else pileAt S c mv) := by rw [hv14]; cases ac <;> exact pv_reads hpw _ _
          have lb : Lv wc (fun _ => True) u15 (if ac then pileAt S fx r else pileAt S c fx) := by rw [hv15]; cases ac <;> exact pv_reads hpw _ _
          have na : (if ac then pileAt S mv r else pileAt S c mv).length ≤ 1000 := by cases ac <;> exact HLen.out _ _
          have nb : (if ac then pileAt S fx r else pileAt S c fx).length ≤ 1000 := by cases ac <;> exact HLen.out _ _
          have hjoin : Hid ((foldS S F).P c r = joinP over (flipL ac (if ac then pileAt S mv r else pileAt S c mv)) (if ac then pileAt S fx r else pileAt S c fx)) := by
            have h1 := hpile.out c r
            have h2 := HI.out
            have h3 := HMV.out
            have h4 := HFX.out
            unfold Hid
            rw [h1]
            cases ac
            · simp only [Bool.false_eq_true, if_false] at h2 ⊢; rw [h2, h3, h4]
            · simp only [if_true] at h2 ⊢; rw [h2, h3, h4]
          clear hv14 hv15 hpw
          generalize (if ac then pileAt S mv r else pileAt S c mv) = pa at *
          generalize (if ac then pileAt S fx r else pileAt S c fx) = pb at *
          have HLa := Lib.hid la
          have HLb := Lib.hid lb
          have HM := Lib.hid hm
          have y0 : wc.cell? ⟨w.heap.size + 1, 0, none⟩ = some (.int .i64 side) := hm.b1.cell 0
          have y1 : wc.cell? ⟨w.heap.size + 1, 1, none⟩ = some (.int .i64 (k : Int)) := hm.b1.cell 1
          have y2 : wc.cell? ⟨w.heap.size + 1, 2, none⟩ = some (.bool over) := hm.b1.cell 2
          obtain ⟨Aa, ca, ea⟩ := SlM.form la
          obtain ⟨Ab, cb, eb⟩ := SlM.form lb
          subst ea
          subst eb
          have HFl : Hid (∀ w', Below wc.heap.size wc w' → Calls Tryd.prog 30 #[.slice Aa pa.length ca, .bool ac] w' fun e W' => ∃ v', e = .returned v' ∧ W'.ownsRow w'.heap.size 63 4 v' pa.length (lcells (flipL ac pa)) ∧ Below w'.heap.size w' W') :=
            fun w' hb => flipped_any _ pa ac w' (fun _ => True) (by omega) (SlM.later HLa.out hb)
          clear hm la lb
          generalize hna : pa.length = lna at *
          generalize hnb : pb.length = lnb at *
          have HNa := Lib.hid hna
          have HNb := Lib.hid hnb
          clear hna hnb
          go_upto_if 102 with (first
            | (go_at_call 28; refine (HA.out _).mono ?_; rintro e w2 ⟨rfl, rfl⟩)
            | (go_at_call 30; refine (HFl.out _ ((Below.refl _ _).alloc (Nat.le_refl _) _)).mono ?_; rintro e w2 ⟨vf, rfl, hvf, hbf⟩; have hb2 : Below wc.heap.size wc w2 := ((Below.refl _ _).alloc (Nat.le_refl _) _).trans (hbf.mono (by simp)); have z2 : w2.cell? ⟨w.heap.size + 1, 2, none⟩ = some (.bool over) := (hb2.cell (p := ⟨w.heap.size + 1, 2, none⟩) HM.out.b1.lt).trans (HM.out.b1.cell 2); have HVf := Lib.hid hvf; have HB2 := Lib.hid hb2; clear hvf hbf hb2))
          go_cut [14, 15] (fun v14 v15 wx => v14 = (if over then vf else .slice Ab lnb cb) ∧ v15 = (if over then .slice Ab lnb cb else vf) ∧ wx = w2)
          case first =>
            cases over
            all_goals
              go_wp2
              go_meet
              exact ⟨rfl, rfl, rfl⟩
          case rest =>
          obtain ⟨hv14, hv15, rfl⟩ := hcut
          clear y0 y1 y2 z2
          have hlf : (flipL ac pa).length = lna := by rw [← HNa.out]; simp [flipL]
          have lf1 : Lv wc (fun _ => True) vf (flipL ac pa) := by
            have := SlM.of_own HVf.out
            unfold Lv; rw [hlf]; exact SlM.mono this fun _ _ _ => trivial
          have lb1 : Lv wc (fun _ => True) (.slice Ab lnb cb) pb := SlM.later HLb.out HB2.out
          have hx : Lv wc (fun _ => True) u14 (if over then flipL ac pa else pb) := by rw [hv14]; cases over <;> assumption
          have hy : Lv wc (fun _ => True) u15 (if over then pb else flipL ac pa) := by rw [hv15]; cases over <;> assumption
          have hxl : (if over then flipL ac pa else pb).length + (if over then pb else flipL ac pa).length ≤ 2000 := by
            have := HNb.out
            cases over
            · simp only [Bool.false_eq_true, if_false]; omega
            · simp only [if_true]; omega
          have hj2 : Hid ((foldS S F).P c r = (if over then flipL ac pa else pb) ++ (if over then pb else flipL ac pa)) := by
            unfold Hid; rw [hjoin.out]; cases over <;> rfl
          have HMx := Lib.hid (HM.out.later HB2.out)
          clear hv14 hv15 lf1 lb1 hlf HM HLa HLb HFl HNa HNb HVf HB2 hjoin
          generalize (if over then flipL ac pa else pb) = px at *
          generalize (if over then pb else flipL ac pa) = py at *
          obtain ⟨Ax, cx, ex⟩ := SlM.form hx
          obtain ⟨Ay, cy, ey⟩ := SlM.form hy
          subst ex
          subst ey
          have HCat : Hid (∀ X : World, Below wc.heap.size wc X → Calls Tryd.prog 31 #[.slice (some ⟨X.heap.size, 0, none⟩) 2 2] (X.alloc (.cells #[.slice Ax px.length cx, .slice Ay py.length cy] 58)) fun e w' => ∃ v', e = .returned v' ∧ Lv w' (fun b => X.heap.size < b) v' (px ++ py) ∧ Below wc.heap.size wc w') := by
            intro X hX
            have hXa : Below wc.heap.size wc (X.alloc (.cells #[.slice Ax px.length cx, .slice Ay py.length cy] 58)) := hX.alloc hX.size _
            have := concat_leaf (.slice (some ⟨X.heap.size, 0, none⟩) 2 2) [.slice Ax px.length cx, .slice Ay py.length cy] [px, py] (X.alloc (.cells #[.slice Ax px.length cx, .slice Ay py.length cy] 58)) (fun b => b = X.heap.size) (fun _ => True) (new_sl X 58 [.slice Ax px.length cx, .slice Ay py.length cy] (by simp [maxLen])) rfl
              (fun i u hu => by
                match i, hu with
                | 0, hu => have hu := (Option.some.inj hu); subst hu; exact SlM.later hx hXa
                | 1, hu => have hu := (Option.some.inj hu); subst hu; exact SlM.later hy hXa) (by simp; omega) (by simp)
            refine this.mono ?_
            rintro e w' ⟨v', rfl, h1, h2⟩
            refine ⟨v', rfl, ?_, hXa.trans (h2.mono hXa.size)⟩
            have h3 := SlM.of_own h1
            simp only [List.flatten_cons, List.flatten_nil, List.append_nil] at h3
            exact SlM.mono h3 fun b _ h => by have := h.2; simp at this; omega
          clear hx hy
          generalize hpq : px ++ py = pq at *
          have HPq := Lib.hid hpq
          clear hpq
          obtain ⟨Av, cv, ev⟩ := own_form HMx.out.pb.own
          have hvl : vals1.length ≤ 1000 := by
            rw [HMx.out.pb.len, colsTo_length]
            have h1 : r * (foldS S F).cols ≤ 8 * 8 := Nat.mul_le_mul (by omega) (by rw [HNC.out]; exact f2)
            omega
          have hs3 := HMx.out.be.size
          have hB3 := HMx.out.b3.lt
          have hBB := HMx.out.hB
          have z2 : wc.cell? ⟨w1.heap.size, 2, none⟩ = some v := HMx.out.b3.cell 2
          rw [ev] at z2
          go_wp2_with fail
          go_region_law (first
            | (refine step_push_form eSl rfl (.tmp 106) (.tmp 111) rfl (w1.heap.size + 1) v vals1.length _ ev.symm ((HOw6.out).alloc _) ⟨w6.heap.size, 0, none⟩ 1 (.slice A6 pq.length c6) rfl (new_one _ _ _) rfl (by omega) (by omega) (by simp; omega) ?_; intro g7 cap7 w7 hown7 hg7 hk7; obtain ⟨q1, q2, q3, q4⟩ := HMx.out.push HB6.out HL6.out hown7 hg7 (by simpa [Value.ownBlock] using hk7); rw [ev] at q1; have HM7 := Lib.hid q4; clear q4 hown7 hg7 hk7)
            | (go_simp; go_at_call 31; refine (HCat.out _ ((Below.refl _ _).drew)).mono ?_; rintro e w6 ⟨v6, rfl, hl6, hb6⟩; have hl6' : Lv w6 (fun b => wc.heap.size ≤ b) v6 pq := SlM.mono hl6 (fun b _ h => Nat.le_of_lt h); have ho6 := own_below HMx.out.pb.own hb6; obtain ⟨A6, c6, e6⟩ := SlM.form hl6'; subst e6; have hz6 := hb6.size; have z6 : w6.cell? ⟨w1.heap.size, 2, none⟩ = some (.slice Av vals1.length cv) := (hb6.cell (p := ⟨w1.heap.size, 2, none⟩) hB3).trans z2; have hB6 : w1.heap.size < w6.heap.size := Nat.lt_of_lt_of_le hB3 hz6; have HOw6 := Lib.hid ho6; have HB6 := Lib.hid hb6; have HL6 := Lib.hid hl6'; clear hl6 hl6' ho6 hb6))
          all_goals
            go_wp2
            go_roundw
            case rel => exact ⟨c + 1, _, _, by omega, by go_num, by rw [colsTo_succ, hj2.out]; exact HM7.out⟩
            case measure => simp [intOf]; omega
        · obtain rfl : c = nc := by omega
          have HM := Lib.hid hm
          clear hm
          go_wp2
          go_roundw
          case rel => exact ⟨r + 1, v, vals1, by omega, by go_num, by have := HM.out; rw [← HNC.out, colsTo_all] at this; rw [← HNC.out]; exact this⟩
          case measure => simp [intOf]; omega
    · obtain rfl : r = nr := by omega
      obtain ⟨A1, c1, hv⟩ := own_form hm.pb.own
      subst hv
      have x0 : wr.cell? ⟨w1.heap.size, 0, none⟩ = some (.int .i64 (nc : Int)) := hm.b3.cell 0
      have x1 : wr.cell? ⟨w1.heap.size, 1, none⟩ = some (.int .i64 (r : Int)) := hm.b3.cell 1
      have x2 : wr.cell? ⟨w1.heap.size, 2, none⟩ = some (.slice A1 _ c1) := hm.b3.cell 2
      have y0 : wr.cell? ⟨w.heap.size + 2, 0, none⟩ = some (.int .i64 0) := hm.b2.cell 0
      have y1 : wr.cell? ⟨w.heap.size + 2, 1, none⟩ = some (.int .i64 0) := hm.b2.cell 1
      have y2 : wr.cell? ⟨w.heap.size + 2, 2, none⟩ = some (.slice none 0 0) := hm.b2.cell 2
      have f0 := hm.b2.frozen 0
      have f1 := hm.b2.frozen 1
      have f2 := hm.b2.frozen 2
      have hlt2 := hm.b2.lt
      have HM := Lib.hid hm
      clear hm
      go_wp2
      refine bodyPost_ret (v := .agg #[.int .i64 (nc : Int), .int .i64 (r : Int), .slice A1 vals1.length c1]) (by simp [results, Tryd.results22, go_sem, y0, y1, y2]) rfl ?_
      rw [HP.out]
      have hB := HM.out.hB
      refine ⟨_, vals1, rfl, ?_, ?_⟩
      · rw [← rowsTo_all, HNR.out]
        exact (((HM.out.pb.far (p := ⟨w.heap.size + 2, 0, none⟩) (by simp; omega) (.int .i64 (nc : Int))).far (p := ⟨w.heap.size + 2, 1, none⟩) (by simp; omega) (.int .i64 (r : Int))).far (p := ⟨w.heap.size + 2, 2, none⟩) (by simp; omega) (.slice A1 vals1.length c1)).pl.mono fun b _ (h : _ ≤ b) => by omega
      · exact ((HM.out.be.setCell (p := ⟨w.heap.size + 2, 0, none⟩) (by simp) (.int .i64 (nc : Int))).setCell (p := ⟨w.heap.size + 2, 1, none⟩) (by simp) (.int .i64 (r : Int))).setCell (p := ⟨w.heap.size + 2, 2, none⟩) (by simp) (.slice A1 vals1.length c1)
end Go.Proofs.YtjmanooedgfbaaaDoor
