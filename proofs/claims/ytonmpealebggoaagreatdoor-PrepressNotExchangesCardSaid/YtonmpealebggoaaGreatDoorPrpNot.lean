/- The walks of the law's own closures: the opposite of a condition, and two conditions in one. -/
import Derived.Test.YtonmpealebggoaaGreatDoorPrpRul0
namespace Go.Proofs.YtonmpealebggoaaGreatDoor
open Go.RowKit Pr
theorem blkc_slm {w : World} {g : Nat} {t : TypeId} {xs : List Value} {n : Nat} (h : Blk w g t xs.toArray) (hn : n ≤ maxLen) : SlM w (fun _ => True) (.slice (some ⟨g, 0, none⟩) n n) n xs :=
  ⟨_, n, rfl, Nat.le_refl _, hn, fun _ => ⟨g, 0, rfl, trivial, h.lt, fun k u hu => by rw [Nat.zero_add, h.cell k]; simpa using hu⟩⟩
theorem cdn_not {W : World} {g : Nat} {u : V5} {o : Cd} (h : Blk W g 25 #[u.k, u.t, u.c, u.n, u.d]) (hu : CdV (fun _ => True) W u o) : CdV (fun _ => True) W ⟨.int .i64 1, .slice none 0 0, .int .i64 0, .int .i64 0, .slice (some ⟨g, 0, none⟩) 1 1⟩ (.mk 1 [] 0 0 [o]) :=
  CdV.mk 1 [] 0 0 [o] _ _ [u] (SlM.nil _ _) (blkc_slm (n := 1) (xs := v5cs [u]) h (by decide)) rfl (fun j h1 h2 => by
    obtain rfl : j = 0 := by simpa using h1
    exact hu) (by decide) ⟨by decide, by decide⟩
theorem cdn_two {W : World} {g : Nat} {u v : V5} {o p : Cd} (k : Int) (hk : I64 k) (h : Blk W g 25 #[u.k, u.t, u.c, u.n, u.d, v.k, v.t, v.c, v.n, v.d]) (hu : CdV (fun _ => True) W u o) (hv : CdV (fun _ => True) W v p) : CdV (fun _ => True) W ⟨.int .i64 k, .slice none 0 0, .int .i64 0, .int .i64 0, .slice (some ⟨g, 0, none⟩) 2 2⟩ (.mk k [] 0 0 [o, p]) :=
  CdV.mk k [] 0 0 [o, p] _ _ [u, v] (SlM.nil _ _) (blkc_slm (n := 2) (xs := v5cs [u, v]) h (by decide)) rfl (fun j h1 h2 => by
    match j, h1, h2 with
    | 0, _, _ => exact hu
    | 1, _, _ => exact hv) (by decide) hk
set_option maxRecDepth 100000 in
set_option maxHeartbeats 4000000 in
theorem notc_any (o : Cd) (u : V5) (P : Nat → Prop) (w : World) (hu : CdV P w u o) :
    Calls Tryz.prog 9 #[.agg #[u.k, u.t, u.c, u.n, u.d]] w fun e w' => ∃ v : V5, e = .returned (.agg #[v.k, v.t, v.c, v.n, v.d]) ∧ CdV (fun _ => True) w' v (.mk 1 [] 0 0 [o]) ∧ Below w.heap.size w w' := by
  have HU := Lib.hid (hu.mono (Q := fun _ => True) fun _ _ _ => trivial)
  clear hu
  obtain ⟨uk, ut, uc, un, ud⟩ := u
  dsimp only at *
  have b1 := (Below.refl w.heap.size w).alloc (Nat.le_refl _) (.cells #[uk, ut, uc, un, ud] 25)
  have b2 := b1.alloc (by simp) (.cells #[.int .i64 1, .slice none 0 0, .int .i64 0, .int .i64 0, .slice (some ⟨w.heap.size + 1 + 1, 0, none⟩) 1 1] 25)
  have b3 := b2.alloc (by simp; omega) (.cells #[uk, ut, uc, un, ud] 25)
  have k2 := (Blk.new (w.alloc (.cells #[uk, ut, uc, un, ud] 25)) 25 #[.int .i64 1, .slice none 0 0, .int .i64 0, .int .i64 0, .slice (some ⟨w.heap.size + 1 + 1, 0, none⟩) 1 1]).alloc (.cells #[uk, ut, uc, un, ud] 25)
  have k3 := Blk.new ((w.alloc (.cells #[uk, ut, uc, un, ud] 25)).alloc (.cells #[.int .i64 1, .slice none 0 0, .int .i64 0, .int .i64 0, .slice (some ⟨w.heap.size + 1 + 1, 0, none⟩) 1 1] 25)) 25 #[uk, ut, uc, un, ud]
  rw [show (w.alloc (.cells #[uk, ut, uc, un, ud] 25)).heap.size = w.heap.size + 1 by simp] at k2
  rw [show ((w.alloc (.cells #[uk, ut, uc, un, ud] 25)).alloc (.cells #[.int .i64 1, .slice none 0 0, .int .i64 0, .int .i64 0, .slice (some ⟨w.heap.size + 1 + 1, 0, none⟩) 1 1] 25)).heap.size = w.heap.size + 1 + 1 by simp] at k3
  have HC := Lib.hid (cdn_not (u := ⟨uk, ut, uc, un, ud⟩) k3 (HU.out.later b3))
  have HB := Lib.hid b3
  obtain ⟨x0, x1, x2, x3, x4⟩ := b5_cells k2
  clear b1 b2 b3 k2 k3
  go_enter Tryz.func9, Tryz.ntmps9
  go_wp2_with fail
  refine bodyPost_ret (v := .agg #[.int .i64 1, .slice none 0 0, .int .i64 0, .int .i64 0, .slice (some ⟨w.heap.size + 1 + 1, 0, none⟩) 1 1]) (by simp [results, Tryz.results9, go_sem, x0, x1, x2, x3, x4]) rfl ?_
  exact ⟨⟨.int .i64 1, .slice none 0 0, .int .i64 0, .int .i64 0, .slice (some ⟨w.heap.size + 1 + 1, 0, none⟩) 1 1⟩, rfl, HC.out, HB.out⟩
set_option maxRecDepth 100000 in
set_option maxHeartbeats 4000000 in
theorem bothc_any (k : Int) (hk : I64 k) (o p : Cd) (u v : V5) (P Q : Nat → Prop) (w : World) (hu : CdV P w u o) (hv : CdV Q w v p) :
    Calls Tryz.prog 10 #[.int .i64 k, .agg #[u.k, u.t, u.c, u.n, u.d], .agg #[v.k, v.t, v.c, v.n, v.d]] w fun e w' => ∃ x : V5, e = .returned (.agg #[x.k, x.t, x.c, x.n, x.d]) ∧ CdV (fun _ => True) w' x (.mk k [] 0 0 [o, p]) ∧ Below w.heap.size w w' := by
  have HU := Lib.hid (hu.mono (Q := fun _ => True) fun _ _ _ => trivial)
  have HV := Lib.hid (hv.mono (Q := fun _ => True) fun _ _ _ => trivial)
  have HK := Lib.hid hk
  clear hu hv hk
  obtain ⟨uk, ut, uc, un, ud⟩ := u
  obtain ⟨vk, vt, vc, vn, vd⟩ := v
  dsimp only at *
  have b1 := (Below.refl w.heap.size w).alloc (Nat.le_refl _) (.cells #[uk, ut, uc, un, ud] 25)
  have b2 := b1.alloc (by simp) (.cells #[vk, vt, vc, vn, vd] 25)
  have b3 := b2.alloc (by simp; omega) (.cells #[.int .i64 k, .slice none 0 0, .int .i64 0, .int .i64 0, .slice (some ⟨w.heap.size + 1 + 1 + 1, 0, none⟩) 2 2] 25)
  have b4 := b3.alloc (by simp; omega) (.cells #[uk, ut, uc, un, ud, vk, vt, vc, vn, vd] 25)
  have k3 := (Blk.new ((w.alloc (.cells #[uk, ut, uc, un, ud] 25)).alloc (.cells #[vk, vt, vc, vn, vd] 25)) 25 #[.int .i64 k, .slice none 0 0, .int .i64 0, .int .i64 0, .slice (some ⟨w.heap.size + 1 + 1 + 1, 0, none⟩) 2 2]).alloc (.cells #[uk, ut, uc, un, ud, vk, vt, vc, vn, vd] 25)
  have k4 := Blk.new (((w.alloc (.cells #[uk, ut, uc, un, ud] 25)).alloc (.cells #[vk, vt, vc, vn, vd] 25)).alloc (.cells #[.int .i64 k, .slice none 0 0, .int .i64 0, .int .i64 0, .slice (some ⟨w.heap.size + 1 + 1 + 1, 0, none⟩) 2 2] 25)) 25 #[uk, ut, uc, un, ud, vk, vt, vc, vn, vd]
  rw [show ((w.alloc (.cells #[uk, ut, uc, un, ud] 25)).alloc (.cells #[vk, vt, vc, vn, vd] 25)).heap.size = w.heap.size + 1 + 1 by simp] at k3
  rw [show (((w.alloc (.cells #[uk, ut, uc, un, ud] 25)).alloc (.cells #[vk, vt, vc, vn, vd] 25)).alloc (.cells #[.int .i64 k, .slice none 0 0, .int .i64 0, .int .i64 0, .slice (some ⟨w.heap.size + 1 + 1 + 1, 0, none⟩) 2 2] 25)).heap.size = w.heap.size + 1 + 1 + 1 by simp] at k4
  have HC := Lib.hid (cdn_two (u := ⟨uk, ut, uc, un, ud⟩) (v := ⟨vk, vt, vc, vn, vd⟩) k HK.out k4 (HU.out.later b4) (HV.out.later b4))
  have HB := Lib.hid b4
  obtain ⟨x0, x1, x2, x3, x4⟩ := b5_cells k3
  clear b1 b2 b3 b4 k3 k4
  go_enter Tryz.func10, Tryz.ntmps10
  go_wp2_with fail
  refine bodyPost_ret (v := .agg #[.int .i64 k, .slice none 0 0, .int .i64 0, .int .i64 0, .slice (some ⟨w.heap.size + 1 + 1 + 1, 0, none⟩) 2 2]) (by simp [results, Tryz.results10, go_sem, x0, x1, x2, x3, x4]) rfl ?_
  exact ⟨⟨.int .i64 k, .slice none 0 0, .int .i64 0, .int .i64 0, .slice (some ⟨w.heap.size + 1 + 1 + 1, 0, none⟩) 2 2⟩, rfl, HC.out, HB.out⟩
end Go.Proofs.YtonmpealebggoaaGreatDoor
