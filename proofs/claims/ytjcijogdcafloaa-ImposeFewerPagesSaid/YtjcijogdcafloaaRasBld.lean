/- The walk of raster.build with any closure that answers for each pixel. -/
import Derived.Test.YtjcijogdcafloaaRasMk
import Derived.Test.YtjcijogdcafloaaPlatePlain
namespace Go.Proofs.Ytjcijogdcafloaa
open Go.RowKit
def bldTo (W : Nat) (f : Nat → Nat → UInt8) (k : Nat) : List UInt8 := (List.range k).map fun i => f (i % W) (i / W)
theorem bldTo_succ (W : Nat) (f : Nat → Nat → UInt8) (k : Nat) : bldTo W f (k + 1) = bldTo W f k ++ [f (k % W) (k / W)] := by
  unfold bldTo; rw [List.range_succ, List.map_append]; rfl
/-- What build has in memory. -/
structure GB (W H : Nat) (G : Nat) (f : Nat → Nat → UInt8) (w wr : World) (vo : Value) (k : Nat) : Prop where
  bg : Blk wr G 93 #[.int .i64 (W : Int), .int .i64 (H : Int), vo]
  own : wr.ownsRow (w.heap.size + 1) 5 1 vo k (byts (bldTo W f k))
  be : Below w.heap.size w wr
  hG : G = w.heap.size + 2
set_option maxRecDepth 100000 in
set_option maxHeartbeats 4000000 in
theorem build_any (W H : Nat) (F : Nat) (caps : Array Value) (f : Nat → Nat → UInt8) (w : World) (w1 : 1 ≤ W) (w2 : W ≤ 1024) (h1 : 1 ≤ H) (h2 : H ≤ 1024) (heg : ∀ args w, (callFunc F args).run Try.prog w = .ok (.enter F args) w)
    (hcl : ∀ (x y : Nat) (w' : World), x < W → y < H → Below w.heap.size w w' → Calls Try.prog F (#[.int .i64 (x : Int), .int .i64 (y : Int)] ++ caps) w' fun e w'' => e = .returned (.int .u8 ((f x y).toNat : Int)) ∧ w' = w'') :
    Calls Try.prog 56 #[.int .i64 (W : Int), .int .i64 (H : Int), .func (.func F) #[] caps] w (GridPost W H (bldL W H f) w) := by
  have hmul : (W : Int) * (H : Int) = ((W * H : Nat) : Int) := by simp
  have hle : W * H ≤ 1024 * 1024 := Nat.mul_le_mul w2 h2
  have HC := Lib.hid hcl
  have HLL : Hid ((bldL W H f).length = W * H ∧ bldL W H f = bldTo W f (W * H)) := ⟨bldL_length W H f, rfl⟩
  have HP : Hid (∀ e w', GridPost W H (bldL W H f) w e w' = ∃ v', e = .returned (.agg #[.int .i64 W, .int .i64 H, v']) ∧ w'.ownsRow w.heap.size 5 1 v' (bldL W H f).length (byts (bldL W H f)) ∧ Below w.heap.size w w') := fun _ _ => rfl
  generalize GridPost W H (bldL W H f) w = Post at *
  clear hcl
  generalize bldL W H f = bL at *
  generalize hm : W * H = m at *
  have HM := Lib.hid hm
  clear hm
  obtain ⟨cs, hcs, hmk⟩ := run_room m (by omega)
  have HCs := Lib.hid hcs
  clear hcs
  go_enter Try.func56, Try.ntmps56
  go_wp2
  clear hmk
  have g0 : GB W H (w.heap.size + 1 + 1) f w (((w.alloc (Obj.cells #[.int .i64 0, .int .i64 0, .slice none 0 0] 93)).alloc (Obj.cells cs 5)).alloc (Obj.cells #[.int .i64 (W : Int), .int .i64 (H : Int), .slice (some ⟨w.heap.size + 1, 0, none⟩) 0 m] 93)) (.slice (some ⟨w.heap.size + 1, 0, none⟩) 0 m) 0 := by
    refine ⟨?_, ?_, (((Below.refl _ _).alloc (Nat.le_refl _) _).alloc (by simp) _).alloc (by simp; omega) _, rfl⟩
    · have := Blk.new ((w.alloc (Obj.cells #[.int .i64 0, .int .i64 0, .slice none 0 0] 93)).alloc (Obj.cells cs 5)) 93 #[.int .i64 (W : Int), .int .i64 (H : Int), .slice (some ⟨w.heap.size + 1, 0, none⟩) 0 m]
      simpa using this
    · have hh := (Blk.new (w.alloc (Obj.cells #[.int .i64 0, .int .i64 0, .slice none 0 0] 93)) 5 cs).alloc (Obj.cells #[.int .i64 (W : Int), .int .i64 (H : Int), .slice (some ⟨w.heap.size + 1, 0, none⟩) 0 m] 93)
      simp only [World.size_alloc] at hh
      exact ⟨rfl, .inr ⟨w.heap.size + 1, m, cs, rfl, Nat.le_refl _, hh, Nat.zero_le _, by unfold maxLen; omega, by rw [HCs.out]; omega, by simp [byts, bldTo]⟩⟩
  have r0 : Blk (((w.alloc (Obj.cells #[.int .i64 0, .int .i64 0, .slice none 0 0] 93)).alloc (Obj.cells cs 5)).alloc (Obj.cells #[.int .i64 (W : Int), .int .i64 (H : Int), .slice (some ⟨w.heap.size + 1, 0, none⟩) 0 m] 93)) w.heap.size 93 #[.int .i64 0, .int .i64 0, .slice none 0 0] := ((Blk.new w _ _).alloc _).alloc _
  have HG0 := Lib.hid g0
  have HR0 := Lib.hid r0
  clear g0 r0
  go_loopw [18] (fun vy wr => ∃ (y : Nat) (vo : Value), y ≤ H ∧ vy = .int .i64 y ∧ GB W H (w.heap.size + 1 + 1) f w wr vo (y * W) ∧ Blk wr w.heap.size 93 #[.int .i64 0, .int .i64 0, .slice none 0 0]) (fun y _ => H - (intOf y).toNat)
  case atStart => exact ⟨0, _, by omega, rfl, by rw [Nat.zero_mul]; exact HG0.out, HR0.out⟩
  case round =>
    obtain ⟨y, vy, hy, rfl, hg, hr⟩ := hrel
    by_cases hly : y < H
    · have hyw : y * W + W ≤ 1048576 := by
        have := Nat.mul_le_mul (show y + 1 ≤ 1024 by omega) w2
        rw [Nat.succ_mul] at this; omega
      have HG := Lib.hid hg
      have HR := Lib.hid hr
      clear hg hr
      generalize hyk : y * W = yk at *
      have HYk := Lib.hid hyk
      clear hyk
      go_wp2
      go_loopw [22] (fun vx wr => ∃ (x : Nat) (vo : Value), x ≤ W ∧ vx = .int .i64 x ∧ GB W H (w.heap.size + 1 + 1) f w wr vo (yk + x) ∧ Blk wr w.heap.size 93 #[.int .i64 0, .int .i64 0, .slice none 0 0]) (fun x _ => W - (intOf x).toNat)
      case atStart => exact ⟨0, vy, by omega, rfl, HG.out, HR.out⟩
      case round =>
        obtain ⟨x, vo, hx, rfl, hg, hr⟩ := hrel
        by_cases hlx : x < W
        · obtain ⟨Ao, co, eo⟩ := own_form hg.own
          subst eo
          have c2 := hg.bg.cell 2
          simp only [List.getElem?_toArray, List.getElem?_cons_zero, List.getElem?_cons_succ] at c2
          have f2 := hg.bg.frozen 2
          have lg := hg.bg.lt
          obtain ⟨v, hv⟩ : ∃ v, f x y = v := ⟨_, rfl⟩
          have HCx : Hid (∀ w', Below w.heap.size w w' → Calls Try.prog F (#[.int .i64 (x : Int), .int .i64 (y : Int)] ++ caps) w' fun e w'' => e = .returned (.int .u8 (v.toNat : Int)) ∧ w' = w'') := fun w' hb => by
            have := HC.out x y w' hlx hly hb
            rw [hv] at this; exact this
          have HSn : Hid (byts (bldTo W f (yk + x + 1)) = byts (bldTo W f (yk + x)) ++ [.int .u8 (v.toNat : Int)]) := by
            show _ = _
            rw [bldTo_succ, show (yk + x) % W = x from by rw [← HYk.out, Nat.mul_add_mod_self_right, Nat.mod_eq_of_lt hlx], show (yk + x) / W = y from by rw [← HYk.out, Nat.mul_comm, Nat.mul_add_div (by omega), Nat.div_eq_of_lt hlx, Nat.add_zero], hv]
            simp [byts]
          clear hv
          have hsz := hg.be.size
          have HGm := Lib.hid hg
          have HRr := Lib.hid hr
          clear hg hr
          generalize hk : yk + x = k at *
          have HK := Lib.hid hk
          have hk9 : k ≤ 1048576 := by omega
          clear hk
          go_wp2
          go_region_law (first
            | (refine step_push_form eByte rfl (.tmp 26) (.tmp 31) rfl (w.heap.size + 1) (.slice Ao k co) k _ rfl (HGm.out.own.drew.alloc _) ⟨wr.heap.size, 0, none⟩ 1 (.int .u8 (v.toNat : Int)) rfl (by go_simp) rfl (by omega) (by omega) (by simp; omega) ?_; intro g7 cap7 w7 hown7 hg7 hk7; have bz := ((HGm.out.bg.drew.alloc (Obj.cells #[.int .u8 (v.toNat : Int)] 5)).grown hg7 (Ne.symm (own_ne HGm.out.bg (by decide) HGm.out.own))); have z2 := bz.cell 2; simp only [List.getElem?_toArray, List.getElem?_cons_zero, List.getElem?_cons_succ] at z2; have y2 := bz.frozen 2; have lz := bz.lt; have HBz := Lib.hid bz; have rz := ((HRr.out.drew.alloc (Obj.cells #[.int .u8 (v.toNat : Int)] 5)).grown hg7 (Ne.symm (own_ne HRr.out (by decide) HGm.out.own))); have HRz := Lib.hid rz; have HO7 := Lib.hid hown7; have HG7 := Lib.hid hg7; clear bz rz hown7 hg7)
            | (go_simp; (with_reducible refine (HCx.out _ ?_).mono ?_); exact HGm.out.be.drew; rintro e w6 ⟨rfl, rfl⟩))
          all_goals
            go_wp2
            go_roundw
            case rel =>
              refine ⟨x + 1, .slice (some ⟨g7, 0, none⟩) (k + 1) cap7, by omega, by go_num, ⟨?_, ?_, ?_, rfl⟩, ?_⟩
              · have := HBz.out.put 2 (.slice (some ⟨g7, 0, none⟩) (k + 1) cap7); simpa using this
              · have e : yk + (x + 1) = k + 1 := by have := HK.out; omega
                rw [e, HSn.out]
                exact own_setCell HO7.out (p := ⟨w.heap.size + 1 + 1, 2, none⟩) (.inr (Ne.symm (fun e' => own_ne HBz.out (by decide) HO7.out e'.symm))) _
              · exact (((HGm.out.be.drew.alloc (by have := HGm.out.be.size; exact this) _).grown HG7.out (by have := HGm.out.be.size; simp; omega) fun j hj => by have := (own_lt HGm.out.own j hj).1; omega)).setCell (p := ⟨w.heap.size + 1 + 1, 2, none⟩) (by simp; omega) _
              · exact HRz.out.far (by simp; omega) _
            case measure => simp [intOf]; omega
        · obtain rfl : x = W := by omega
          have HG2 := Lib.hid hg
          have HR2 := Lib.hid hr
          clear hg hr
          go_wp2
          go_roundw
          case rel => exact ⟨y + 1, vo, by omega, by go_num, by rw [Nat.succ_mul, HYk.out]; exact HG2.out, HR2.out⟩
          case measure => simp [intOf]; omega
    · obtain rfl : y = H := by omega
      obtain ⟨Ao, co, eo⟩ := own_form hg.own
      subst eo
      have s0 := hg.bg.cell 0
      have s1 := hg.bg.cell 1
      have s2 := hg.bg.cell 2
      have t0 := hr.cell 0
      have t1 := hr.cell 1
      have t2 := hr.cell 2
      simp only [List.getElem?_toArray, List.getElem?_cons_zero, List.getElem?_cons_succ] at s0 s1 s2 t0 t1 t2
      have f0 := hr.frozen 0
      have f1 := hr.frozen 1
      have f2 := hr.frozen 2
      have ls := hg.bg.lt
      have lr := hr.lt
      have hmy : y * W = m := by rw [Nat.mul_comm]; exact HM.out
      rw [hmy] at hg s2
      have HGe := Lib.hid hg
      clear hg hr hmy
      go_wp2
      refine bodyPost_ret (v := .agg #[.int .i64 W, .int .i64 y, .slice Ao m co]) (by simp [results, Try.results56, go_sem, t0, t1, t2, World.cell?_setCell_other, World.cell?_setCell_same]) rfl ?_
      rw [HP.out]
      refine ⟨_, rfl, ?_, ?_⟩
      · rw [HLL.out.1, HLL.out.2]
        exact own_base (own_setCell (own_setCell (own_setCell HGe.out.own (p := ⟨w.heap.size, 0, none⟩) (.inl (by simp)) _) (p := ⟨w.heap.size, 1, none⟩) (.inl (by simp)) _) (p := ⟨w.heap.size, 2, none⟩) (.inl (by simp)) _) (by omega)
      · exact ((HGe.out.be.setCell (p := ⟨w.heap.size, 0, none⟩) (Nat.le_refl _) _).setCell (p := ⟨w.heap.size, 1, none⟩) (Nat.le_refl _) _).setCell (p := ⟨w.heap.size, 2, none⟩) (Nat.le_refl _) _
end Go.Proofs.Ytjcijogdcafloaa
