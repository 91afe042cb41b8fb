/- The walk of Set's closure. -/
import Derived.Test.YthbdhijkdldmoaaGreatDoorObjEdL
import Derived.Test.YthbdhijkdldmoaaGreatDoorObjInsO
import Derived.RegionTactic
import Derived.BigRegion
import Derived.Test.YthbdhijkdldmoaaGreatDoorTailHeld
import Derived.Deep.DeepCutAuto
import Derived.Deep.CutBlock
namespace Go.Proofs.YthbdhijkdldmoaaGreatDoor
open Go.RowKit Tk Ob
/-- An element replaced by a tree of rows of X. -/
theorem EdPost.putKid {w w1 : World} {o : Ox} {F X : Nat → Prop} {b off g i n cap : Nat} {cs cur : Array Value} {t : TypeId} {kv : Value} {vs : List V5} {Fs : Nat → Nat → Prop} {vv : V5} {V : Ox}
    (he : Ed w b off cs t ⟨.int .i64 o.kind, .int .i64 o.int, .string ⟨o.text.toArray⟩, kv, .slice (some ⟨g, 0, none⟩) n cap⟩ o F) (h : OwnP w o F kv (.slice (some ⟨g, 0, none⟩) n cap) vs Fs) (hi : i < o.kids.length) (hb : w.heap[g]? = some (.cells cur 25 (0, 0)))
    (hX : ∀ x, X x → ¬ F x ∧ x ≠ b) (hV : OwnO w vv V X) (hw : Below w.heap.size w w1) :
    EdPost (.ok (o.withKids o.keys (o.kids.set i V))) w b off cs t F X (.returned (.int .i64 0)) (put5 w1 g (i * 5) vv) := by
  have hgl := (own_lt h.hd g rfl).2
  have hfr : FrS w.heap.size (fun k => k = g ∨ Fs i k) w (put5 w1 g (i * 5) vv) := put5_frs (T := fun k => k = g ∨ Fs i k) (FrS.of_below hw (Nat.le_refl _)) (.inr (.inl rfl)) vv
  have hfr2 : FrS w.heap.size (fun k => k = g) w (put5 w1 g (i * 5) vv) := put5_frs (T := fun k => k = g) (FrS.of_below hw (Nat.le_refl _)) (.inr rfl) vv
  refine EdPost.up (r := .ok V) he h hi hb hX ⟨hfr, rfl, vv, ?_, ?_⟩
  · have h1 : Blk w1 g 25 cur := Blk.below hb hw hgl
    exact ((((h1.put _ _).put _ _).put _ _).put _ _).put _ _
  · exact (hV.keep fun x hx hl => hfr2.block x hl fun e => (hX x hx).1 (e ▸ h.fd g rfl)).mono fun x hx => .inr (.inl hx)
set_option maxRecDepth 100000 in
set_option maxHeartbeats 4000000 in
theorem setc_found (o V : Ox) (v vv : V5) (b off vb i : Nat) (cs : Array Value) (t : TypeId) (F X : Nat → Prop) (S : ByteArray) (w : World) (he : Ed w b off cs t v o F) (hX : ∀ x, X x → ¬ F x ∧ x ≠ b) (hB : B5 w vb vv) (hV : OwnO w vv V X) (hi : i < o.kids.length) :
    Calls Tryz.prog 34 #[.pointer (some ⟨b, off, none⟩), .int .i64 i, .bool true, .string S, .pointer (some ⟨vb, 0, none⟩)] w (EdPost (.ok (o.withKids o.keys (o.kids.set i V))) w b off cs t F X) := by
  obtain ⟨kv, dv, vs, Fs, rfl, hP⟩ := he.own.opn
  have hiv : i < vs.length := by rw [hP.hl]; exact hi
  obtain ⟨g, cap, cur, rfl, hnc, hcm, hFg, hgl, hk⟩ := hP.kid hi hiv
  unfold maxLen at hcm
  obtain ⟨x0, x1, x2, x3, x4⟩ := he.cells
  obtain ⟨y0, y1, y2, y3, y4⟩ := hk.cells
  have yf := fun k => Blk.frozen hk.blk k
  obtain ⟨z0, z1, z2, z3, z4⟩ := b5_cells hB
  have hFin : Hid (EdPost (.ok (o.withKids o.keys (o.kids.set i V))) w b off cs t F X (.returned (.int .i64 0)) (put5 w g (i * 5) vv).drew) := (EdPost.putKid he hP hi hk.blk hX hV (Below.refl _ _)).drew
  obtain ⟨kv9, dv9, us9, rfl, s91, s92, -, -⟩ := hV.objV.open_
  obtain ⟨A9, c9, rfl⟩ := s91.form
  obtain ⟨D9, e9, rfl⟩ := s92.form
  obtain ⟨Ak, ck, rfl⟩ := own_form hP.hk
  generalize hvi : vs[i] = u at *
  obtain ⟨u0, u1, u2, u3, u4⟩ := u
  dsimp only at x0 x1 x2 x3 x4 y0 y1 y2 y3 y4 z0 z1 z2 z3 z4 hFin
  generalize EdPost _ _ _ _ _ _ _ _ = Post at *
  clear he hP hk hB hV hX s91 s92 hvi
  generalize (⟨V.text.toArray⟩ : ByteArray) = TV at *
  generalize V.kind = kV at *
  generalize V.int = iV at *
  generalize V.kids.length = nV at *
  generalize (strs V.keys).length = mV at *
  generalize o.kids.length = n at *
  go_enter Tryz.func34, Tryz.ntmps34
  go_wp2
  go_region
  go_wp2_with fail
  exact hFin.out
theorem v5_one {w : World} {F : Nat → Prop} {v : V5} {o : Ox} (h : OwnO w v o F) : ∀ x ∈ v.cells, x.oneCell' = true := h.objV.one
theorem OwnP.one {w : World} {o : Ox} {F : Nat → Prop} {kv dv : Value} {vs : List V5} {Fs : Nat → Nat → Prop} (h : OwnP w o F kv dv vs Fs) : ∀ x ∈ v5cs vs, x.oneCell' = true := by
  intro x hx
  obtain ⟨v, hv, hx⟩ := List.mem_flatMap.1 hx
  obtain ⟨j, hj, e⟩ := List.getElem_of_mem hv
  have := h.hkid j (by have := h.hl; omega) hj
  rw [e] at this
  exact v5_one this x hx
set_option maxRecDepth 100000 in
set_option maxHeartbeats 4000000 in
theorem setc_far (o : Ox) (v : V5) (b off vb : Nat) (i : Int) (cs : Array Value) (t : TypeId) (F X : Nat → Prop) (S : ByteArray) (w : World) (he : Ed w b off cs t v o F) (h7 : o.kind ≠ 7) (hi : i ≠ (o.kids.length : Int)) :
    Calls Tryz.prog 34 #[.pointer (some ⟨b, off, none⟩), .int .i64 i, .bool false, .string S, .pointer (some ⟨vb, 0, none⟩)] w (EdPost (.error 8) w b off cs t F X) := by
  obtain ⟨kv, dv, vs, Fs, rfl, hP⟩ := he.own.opn
  obtain ⟨x0, x1, x2, x3, x4⟩ := he.cells
  obtain ⟨Ad, cd, rfl⟩ := own_form hP.hd
  have hFin : Hid (EdPost (.error 8) w b off cs t F X (.returned (.int .i64 8)) w) := ⟨FrS.refl _ _ _, rfl⟩
  dsimp only at x0 x4
  generalize EdPost _ _ _ _ _ _ _ _ = Post at *
  have hkb : (o.kind == 7) = false := by simpa using h7
  have hib : (i != (o.kids.length : Int)) = true := by simpa using hi
  clear he hP x1 x2 x3 h7 hi
  generalize o.kids.length = n at *
  generalize o.kind = k at *
  go_enter Tryz.func34, Tryz.ntmps34
  go_wp2
  exact hFin.out
set_option maxRecDepth 100000 in
set_option maxHeartbeats 4000000 in
theorem setc_list (o V : Ox) (v vv : V5) (b off vb : Nat) (cs : Array Value) (t : TypeId) (F X : Nat → Prop) (S : ByteArray) (w : World) (he : Ed w b off cs t v o F) (hX : ∀ x, X x → ¬ F x ∧ x ≠ b) (hB : B5 w vb vv) (hV : OwnO w vv V X) (hXv : X vb) (h7 : o.kind ≠ 7) (h256 : o.kids.length ≤ 256) :
    Calls Tryz.prog 34 #[.pointer (some ⟨b, off, none⟩), .int .i64 o.kids.length, .bool false, .string S, .pointer (some ⟨vb, 0, none⟩)] w (EdPost (.ok (o.withKids o.keys (o.kids.insertIdx o.kids.length V))) w b off cs t F X) := by
  obtain ⟨kv, dv, vs, Fs, rfl, hP⟩ := he.own.opn
  obtain ⟨x0, x1, x2, x3, x4⟩ := he.cells
  have xf := fun k => Blk.frozen he.blk k
  have hbl := he.blk.lt
  obtain ⟨z0, z1, z2, z3, z4⟩ := b5_cells hB
  have hvl := hB.lt
  have hv1 := v5_one hV
  have hdb : dv.ownBlock ≠ some b := fun e => he.far (hP.fd b e)
  have hdvb : dv.ownBlock ≠ some vb := fun e => (hX vb hXv).1 (hP.fd vb e)
  have hdw : dv.ownBlock ≠ some w.heap.size := fun e => by have := (own_lt hP.hd _ e).2; omega
  have HIns : Hid (∀ W : World, Blk W w.heap.size 25 vv.cells.toArray → (∀ x, x < w.heap.size → W.heap[x]? = w.heap[x]?) →
      Calls Tryz.prog 31 #[dv, .int .i64 o.kids.length, .slice (some ⟨w.heap.size, 0, none⟩) 1 1] W (InsPost 0 25 5 dv o.kids.length o.kids.length (v5cs vs) vv.cells W)) := fun W hW hk =>
    insAnyO 0 o.kids.length o.kids.length w.heap.size 1 dv (v5cs vs) vv.cells W (own_same hP.hd fun x hx => hk x (own_lt hP.hd x hx).2) (Nat.le_refl _) (Nat.zero_le _) (by omega) hW hdw rfl hP.one hv1
  have hFin : Hid (∀ (W1 w2 : World) (v' : Value), FrS w.heap.size (fun _ => False) w W1 → w2.ownsRow 0 25 5 v' (o.kids.length + 1) ((v5cs vs).take (o.kids.length * 5) ++ vv.cells ++ (v5cs vs).drop (o.kids.length * 5)) → FrS W1.heap.size (fun k => dv.ownBlock = some k) W1 w2 → (v'.ownBlock = dv.ownBlock ∨ ∃ k, v'.ownBlock = some k ∧ W1.heap.size ≤ k) →
      EdPost (.ok (o.withKids o.keys (o.kids.insertIdx o.kids.length V))) w b off cs t F X (.returned (.int .i64 0)) (w2.setCell ⟨b, off + 4, none⟩ v')) := fun W1 w2 v' hf1 ho hf2 hv' => by
    have hs1 := hf1.size
    have hf : FrS w.heap.size (fun k => dv.ownBlock = some k) w w2 := (hf1.weak (Nat.le_refl _) fun _ _ h => h.elim).trans (hf2.weak hs1 fun _ _ h => h)
    have hft : FrS w.heap.size (fun k => k = b ∨ dv.ownBlock = some k) w (w2.setCell ⟨b, off + 4, none⟩ v') := (hf.weak (Nat.le_refl _) fun _ _ h => .inr h).put (.inr (.inl rfl)) v'
    have hff : FrS w.heap.size (fun k => k = b ∨ kv.ownBlock = some k ∨ dv.ownBlock = some k) w (w2.setCell ⟨b, off + 4, none⟩ v') := (hf.weak (Nat.le_refl _) fun _ _ h => .inr (.inr h)).put (.inr (.inl rfl)) v'
    have hv2 : v'.ownBlock = dv.ownBlock ∨ ∃ k, v'.ownBlock = some k ∧ w.heap.size ≤ k := hv'.imp id fun ⟨k, a, b⟩ => ⟨k, a, by omega⟩
    have hbv : ∀ x, v'.ownBlock = some x → x ≠ b := fun x hx e => by
      subst e
      rcases hv2 with h | ⟨k, h, hk⟩
      · exact hdb (h ▸ hx)
      · rw [h] at hx; cases hx; omega
    refine EdPost.ins he hP (Nat.le_refl _) hX hV (own_same hP.hk fun x hx => hft.block x (own_lt hP.hk x hx).2 (fun hh => hh.elim (fun e => he.far (e ▸ hP.fk x hx)) (hP.dk x hx))) (own_same ho fun x hx => Below.heap_setCell w2 _ _ x (hbv x hx)) hff (.inl rfl) hv2 (fun x hx hx' => ?_) ?_
    · have h1 := (own_lt hP.hk x hx).2
      rcases hv2 with h | ⟨k, h, hk⟩
      · exact hP.dk x hx (h ▸ hx')
      · rw [h] at hx'; cases hx'; omega
    · have h3 : cs.setIfInBounds (off + 3) kv = cs := set_same (he.cell 3 _ rfl)
      rw [h3]
      exact (hf.blk he.blk hbl hdb).put _ _
  obtain ⟨kv9, dv9, us9, rfl, s91, s92, -, -⟩ := hV.objV.open_
  obtain ⟨A9, c9, rfl⟩ := s91.form
  obtain ⟨D9, e9, rfl⟩ := s92.form
  obtain ⟨Ad, cd, rfl⟩ := own_form hP.hd
  dsimp only at x0 x4 z0 z1 z2 z3 z4 HIns
  have HB0 := Lib.hid he.blk
  have HBv := Lib.hid hB
  generalize EdPost _ _ _ _ _ _ _ _ = Post at *
  have hkb : (o.kind == 7) = false := by simpa using h7
  have hib : ((o.kids.length : Int) != (o.kids.length : Int)) = false := by simp
  clear he hP hB hX hV s91 s92 h7 x1 x2 x3 hv1
  generalize (⟨V.text.toArray⟩ : ByteArray) = TV at *
  generalize V.kind = kV at *
  generalize V.int = iV at *
  generalize V.kids.length = nV at *
  generalize (strs V.keys).length = mV at *
  generalize o.kids.length = n at *
  generalize o.kind = k at *
  go_enter Tryz.func34, Tryz.ntmps34
  go_wp2
  have hS0 : (fun w' : World => (w'.cell? ⟨b, off + 4, none⟩ = some (.slice Ad n cd) ∧ w'.cell? ⟨vb, 0, none⟩ = some (.int .i64 kV) ∧ w'.cell? ⟨vb, 1, none⟩ = some (.int .i64 iV) ∧ w'.cell? ⟨vb, 2, none⟩ = some (.string TV) ∧ w'.cell? ⟨vb, 3, none⟩ = some (.slice A9 mV c9) ∧ w'.cell? ⟨vb, 4, none⟩ = some (.slice D9 nV e9))) w.drew := ⟨x4, z0, z1, z2, z3, z4⟩
  refine wp_region_tail (fun w' : World => (w'.cell? ⟨b, off + 4, none⟩ = some (.slice Ad n cd) ∧ w'.cell? ⟨vb, 0, none⟩ = some (.int .i64 kV) ∧ w'.cell? ⟨vb, 1, none⟩ = some (.int .i64 iV) ∧ w'.cell? ⟨vb, 2, none⟩ = some (.string TV) ∧ w'.cell? ⟨vb, 3, none⟩ = some (.slice A9 mV c9) ∧ w'.cell? ⟨vb, 4, none⟩ = some (.slice D9 nV e9))) 11 (by kernel_rfl) (by kernel_rfl) hS0 (fun hHeld => ?_)
  refine wpAnyD_take 0 (v := ?_) rfl (by kernel_rfl) (by kernel_rfl) (by kernel_rfl) (fun _ _ _ h => h) hHeld (Or.inl ⟨by rfl, ?_⟩) ?_
  rotate_left
  · intro w' hw'; obtain ⟨a0, a1, a2, a3, a4, a5⟩ := hw'; go_simp; try with_reducible rfl
  try simp only [Act.put, List.setIfInBounds_toArray, List.set_cons_zero, List.set_cons_succ]
  refine wpAnyD_take 1 (v := ?_) rfl (by kernel_rfl) (by kernel_rfl) (by kernel_rfl) (fun _ _ _ h => h) hHeld (Or.inl ⟨by rfl, ?_⟩) ?_
  rotate_left
  · intro w' hw'; obtain ⟨a0, a1, a2, a3, a4, a5⟩ := hw'; go_simp; try with_reducible rfl
  try simp only [Act.put, List.setIfInBounds_toArray, List.set_cons_zero, List.set_cons_succ]
  refine wpAnyD_take 2 (v := ?_) rfl (by kernel_rfl) (by kernel_rfl) (by kernel_rfl) (fun _ _ _ h => h) hHeld (Or.inl ⟨by rfl, ?_⟩) ?_
  rotate_left
  · intro w' hw'; obtain ⟨a0, a1, a2, a3, a4, a5⟩ := hw'; go_simp; try with_reducible rfl
  try simp only [Act.put, List.setIfInBounds_toArray, List.set_cons_zero, List.set_cons_succ]
  refine wpAnyD_take 3 (v := ?_) rfl (by kernel_rfl) (by kernel_rfl) (by kernel_rfl) (fun _ _ _ h => h) hHeld (Or.inl ⟨by rfl, ?_⟩) ?_
  rotate_left
  · intro w' hw'; obtain ⟨a0, a1, a2, a3, a4, a5⟩ := hw'; go_simp; try with_reducible rfl
  try simp only [Act.put, List.setIfInBounds_toArray, List.set_cons_zero, List.set_cons_succ]
  refine wpAnyD_take 4 (v := ?_) rfl (by kernel_rfl) (by kernel_rfl) (by kernel_rfl) (fun _ _ _ h => h) hHeld (Or.inl ⟨by rfl, ?_⟩) ?_
  rotate_left
  · intro w' hw'; obtain ⟨a0, a1, a2, a3, a4, a5⟩ := hw'; go_simp; try with_reducible rfl
  try simp only [Act.put, List.setIfInBounds_toArray, List.set_cons_zero, List.set_cons_succ]
  refine wpAnyD_take 5 (v := ?_) rfl (by kernel_rfl) (by kernel_rfl) (by kernel_rfl) (fun _ _ _ h => h) hHeld (Or.inl ⟨by rfl, ?_⟩) ?_
  rotate_left
  · intro w' hw'; obtain ⟨a0, a1, a2, a3, a4, a5⟩ := hw'; go_simp; try with_reducible rfl
  try simp only [Act.put, List.setIfInBounds_toArray, List.set_cons_zero, List.set_cons_succ]
  refine wpAnyD_take 6 (v := ?_) rfl (by kernel_rfl) (by kernel_rfl) (by kernel_rfl) (fun _ _ _ h => h) hHeld (Or.inl ⟨by rfl, ?_⟩) ?_
  rotate_left
  · intro w' hw'; obtain ⟨a0, a1, a2, a3, a4, a5⟩ := hw'; go_simp; try with_reducible rfl
  try simp only [Act.put, List.setIfInBounds_toArray, List.set_cons_zero, List.set_cons_succ]
  refine wpAnyD_ready [7] (by kernel_rfl) ?_
  refine AllReadyD.cons rfl (fun K hK => ?_) AllReadyD.nil
  go_simp
  refine hK.out _ _ ⟨(cell_lt _ _ _ hbl).trans x4, (cell_lt _ _ _ hvl).trans z0, (cell_lt _ _ _ hvl).trans z1, (cell_lt _ _ _ hvl).trans z2, (cell_lt _ _ _ hvl).trans z3, (cell_lt _ _ _ hvl).trans z4⟩ (fun hHeld => ?_)
  refine wpAnyD_ready [8] (by kernel_rfl) ?_
  refine AllReadyD.cons rfl (fun K hK => ?_) AllReadyD.nil
  go_simp
  have hW : FrS w.heap.size (fun _ => False) w (w.alloc (.cells #[.int .i64 kV, .int .i64 iV, .string TV, .slice A9 mV c9, .slice D9 nV e9] 25)).drew := ((FrS.refl _ _ _).alloc (Nat.le_refl _) _).drew
  refine (HIns.out _ (Blk.new w _ _).drew (fun x hx => hW.block x hx fun h => h)).mono ?_
  rintro e w2 ⟨v', rfl, ho2, hf2, hv2⟩
  have hlt : w.heap.size ≤ (w.alloc (.cells #[.int .i64 kV, .int .i64 iV, .string TV, .slice A9 mV c9, .slice D9 nV e9] 25)).drew.heap.size := hW.size
  have hbW : Blk (w.alloc (.cells #[.int .i64 kV, .int .i64 iV, .string TV, .slice A9 mV c9, .slice D9 nV e9] 25)).drew b t cs := hW.blk HB0.out hbl fun h => h
  have hb2 := hf2.blk hbW hbW.lt hdb
  have hvW : B5 (w.alloc (.cells #[.int .i64 kV, .int .i64 iV, .string TV, .slice A9 mV c9, .slice D9 nV e9] 25)).drew vb ⟨.int .i64 kV, .int .i64 iV, .string TV, .slice A9 mV c9, .slice D9 nV e9⟩ := hW.blk HBv.out hvl fun h => h
  have hv2' := hf2.blk hvW hvW.lt hdvb
  obtain ⟨q0, q1, q2, q3, q4⟩ := b5_cells hv2'
  have r4 := (Blk.cell hb2 (off + 4)).trans ((Blk.cell HB0.out (off + 4)).symm.trans x4)
  have rf := Blk.frozen hb2 (off + 4)
  have rl := hb2.lt
  have hend := hFin.out _ w2 v' hW ho2 hf2 hv2
  obtain ⟨Av, cv, rfl⟩ := own_form ho2
  have HEnd := Lib.hid hend
  clear ho2 hf2 hv2 hend hbW hb2 hvW hv2'
  refine hK.out _ _ ⟨r4, q0, q1, q2, q3, q4⟩ (fun hHeld => ?_)
  refine wpAnyD_take 9 (v := ?_) rfl (by kernel_rfl) (by kernel_rfl) (by kernel_rfl) (fun _ _ _ h => h) hHeld (Or.inl ⟨by rfl, ?_⟩) ?_
  rotate_left
  · intro w' hw'; obtain ⟨a0, a1, a2, a3, a4, a5⟩ := hw'; go_simp; try with_reducible rfl
  try simp only [Act.put, List.setIfInBounds_toArray, List.set_cons_zero, List.set_cons_succ]
  refine wpAnyD_take 10 (v := ?_) rfl (by kernel_rfl) (by kernel_rfl) (by kernel_rfl) (fun _ _ _ h => h) hHeld (Or.inl ⟨by rfl, ?_⟩) ?_
  rotate_left
  · intro w' hw'; obtain ⟨a0, a1, a2, a3, a4, a5⟩ := hw'; go_simp; try with_reducible rfl
  try simp only [Act.put, List.setIfInBounds_toArray, List.set_cons_zero, List.set_cons_succ]
  refine wpAnyD_done (by kernel_rfl) ?_
  simp only [List.drop_succ_cons, List.drop_zero]
  clear hS0 hHeld hK x0 x4 z0 z1 z2 z3 z4 hlt hW q0 q1 q2 q3 q4
  go_wp2_with fail
  exact HEnd.out
set_option maxRecDepth 100000 in
set_option maxHeartbeats 8000000 in
theorem setc_dict (o V : Ox) (v vv : V5) (b off vb i : Nat) (cs : Array Value) (t : TypeId) (F X : Nat → Prop) (s : Tk.Src) (w : World) (he : Ed w b off cs t v o F) (hX : ∀ x, X x → ¬ F x ∧ x ≠ b) (hB : B5 w vb vv) (hV : OwnO w vv V X) (hXv : X vb) (h7 : o.kind = 7) (h256 : o.kids.length ≤ 256) (hlen : o.keys.length = o.kids.length) (hi : i ≤ o.kids.length) :
    Calls Tryz.prog 34 #[.pointer (some ⟨b, off, none⟩), .int .i64 i, .bool false, .string ⟨s.toArray⟩, .pointer (some ⟨vb, 0, none⟩)] w (EdPost (.ok (o.withKids (o.keys.insertIdx i s) (o.kids.insertIdx i V))) w b off cs t F X) := by
  obtain ⟨kv, dv, vs, Fs, rfl, hP⟩ := he.own.opn
  obtain ⟨x0, x1, x2, x3, x4⟩ := he.cells
  have xf := fun k => Blk.frozen he.blk k
  have hbl := he.blk.lt
  have hvl := hB.lt
  have hv1 := v5_one hV
  have hik : i ≤ o.keys.length := by omega
  have hdb : dv.ownBlock ≠ some b := fun e => he.far (hP.fd b e)
  have hkb : kv.ownBlock ≠ some b := fun e => he.far (hP.fk b e)
  have hdvb : dv.ownBlock ≠ some vb := fun e => (hX vb hXv).1 (hP.fd vb e)
  have hkvb : kv.ownBlock ≠ some vb := fun e => (hX vb hXv).1 (hP.fk vb e)
  have hvbb : vb ≠ b := (hX vb hXv).2
  have hkw : kv.ownBlock ≠ some w.heap.size := fun e => by have := (own_lt hP.hk _ e).2; omega
  have HInsS : Hid (∀ W : World, Blk W w.heap.size 9 #[.string ⟨s.toArray⟩] → (∀ x, x < w.heap.size → W.heap[x]? = w.heap[x]?) →
      Calls Tryz.prog 30 #[kv, .int .i64 i, .slice (some ⟨w.heap.size, 0, none⟩) 1 1] W (InsPost 0 9 1 kv o.keys.length i (strs o.keys) [.string ⟨s.toArray⟩] W)) := fun W hW hk =>
    insAnyS 0 o.keys.length i w.heap.size 1 kv (strs o.keys) [.string ⟨s.toArray⟩] W (own_same hP.hk fun x hx => hk x (own_lt hP.hk x hx).2) hik (Nat.zero_le _) (by omega) hW hkw rfl (strs_one _) (fun u hu => by simp at hu; subst hu; rfl)
  have hSt : Hid (∀ (W1 w2 : World) (v' : Value), FrS w.heap.size (fun _ => False) w W1 → FrS W1.heap.size (fun k => kv.ownBlock = some k) W1 w2 → FrS w.heap.size (fun k => k = b ∨ kv.ownBlock = some k) w (w2.setCell ⟨b, off + 3, none⟩ v') ∧ Blk w2 b t cs ∧ Blk (w2.setCell ⟨b, off + 3, none⟩ v') b t (cs.setIfInBounds (off + 3) v')) := fun W1 w2 v' hf1 hf2 => by
    have hf : FrS w.heap.size (fun k => kv.ownBlock = some k) w w2 := (hf1.weak (Nat.le_refl _) fun _ _ h => h.elim).trans (hf2.weak hf1.size fun _ _ h => h)
    have h1 := hf.blk he.blk hbl hkb
    exact ⟨(hf.weak (Nat.le_refl _) fun _ _ h => .inr h).put (.inr (.inl rfl)) v', h1, h1.put _ _⟩
  have HIns : Hid (∀ w3 W : World, FrS w.heap.size (fun k => k = b ∨ kv.ownBlock = some k) w w3 → Blk W w3.heap.size 25 vv.cells.toArray → (∀ x, x < w3.heap.size → W.heap[x]? = w3.heap[x]?) →
      Calls Tryz.prog 31 #[dv, .int .i64 i, .slice (some ⟨w3.heap.size, 0, none⟩) 1 1] W (InsPost 0 25 5 dv o.kids.length i (v5cs vs) vv.cells W)) := fun w3 W hf hW hk => by
    have hlt := fun x (hx : dv.ownBlock = some x) => (own_lt hP.hd x hx).2
    have hsz := hf.size
    exact insAnyO 0 o.kids.length i w3.heap.size 1 dv (v5cs vs) vv.cells W (own_same hP.hd fun x hx => (hk x (Nat.lt_of_lt_of_le (hlt x hx) hsz)).trans (hf.block x (hlt x hx) fun hh => hh.elim (fun e => hdb (e ▸ hx)) fun h => hP.dk x h hx)) hi (Nat.zero_le _) (by omega) hW (fun e => by have := hlt _ e; omega) rfl hP.one hv1
  have hFin : Hid (∀ (W1 w2 : World) (kv' : Value), FrS w.heap.size (fun _ => False) w W1 → w2.ownsRow 0 9 1 kv' (o.keys.length + 1) ((strs o.keys).take (i * 1) ++ [.string ⟨s.toArray⟩] ++ (strs o.keys).drop (i * 1)) → FrS W1.heap.size (fun k => kv.ownBlock = some k) W1 w2 → (kv'.ownBlock = kv.ownBlock ∨ ∃ k, kv'.ownBlock = some k ∧ W1.heap.size ≤ k) →
      ∀ (W3 w4 : World) (v' : Value), FrS (w2.setCell ⟨b, off + 3, none⟩ kv').heap.size (fun _ => False) (w2.setCell ⟨b, off + 3, none⟩ kv') W3 → w4.ownsRow 0 25 5 v' (o.kids.length + 1) ((v5cs vs).take (i * 5) ++ vv.cells ++ (v5cs vs).drop (i * 5)) → FrS W3.heap.size (fun k => dv.ownBlock = some k) W3 w4 → (v'.ownBlock = dv.ownBlock ∨ ∃ k, v'.ownBlock = some k ∧ W3.heap.size ≤ k) →
      EdPost (.ok (o.withKids (o.keys.insertIdx i s) (o.kids.insertIdx i V))) w b off cs t F X (.returned (.int .i64 0)) (w4.setCell ⟨b, off + 4, none⟩ v')) := fun W1 w2 kv' hf1 ho hf2 hv' W3 w4 v' hf3 ho4 hf4 hv4 => by
    obtain ⟨hfa, hba, hbb⟩ := hSt.out W1 w2 kv' hf1 hf2
    have hs1 := hf1.size
    have hs2 := hf2.size
    have hs3 := hf3.size
    have hsa := hfa.size
    have hs22 : (w2.setCell ⟨b, off + 3, none⟩ kv').heap.size = w2.heap.size := by simp [World.setCell]
    have hkl : ∀ x, kv'.ownBlock = some x → x < w2.heap.size := fun x hx => (own_lt ho x hx).2
    have hdl : ∀ x, dv.ownBlock = some x → x < w.heap.size := fun x hx => (own_lt hP.hd x hx).2
    have hf34 : FrS (w2.setCell ⟨b, off + 3, none⟩ kv').heap.size (fun k => dv.ownBlock = some k) (w2.setCell ⟨b, off + 3, none⟩ kv') w4 := (hf3.weak (Nat.le_refl _) fun _ _ h => h.elim).trans (hf4.weak hs3 fun _ _ h => h)
    have hfull : FrS w.heap.size (fun k => k = b ∨ kv.ownBlock = some k ∨ dv.ownBlock = some k) w (w4.setCell ⟨b, off + 4, none⟩ v') :=
      ((hfa.weak (Nat.le_refl _) fun _ _ h => h.imp id .inl).trans (hf34.weak hsa fun _ _ h => .inr (.inr h))).put (.inr (.inl rfl)) v'
    have hkv2 : kv'.ownBlock = kv.ownBlock ∨ ∃ k, kv'.ownBlock = some k ∧ w.heap.size ≤ k := hv'.imp id fun ⟨k, a, b⟩ => ⟨k, a, by omega⟩
    have hv2 : v'.ownBlock = dv.ownBlock ∨ ∃ k, v'.ownBlock = some k ∧ w2.heap.size ≤ k := hv4.imp id fun ⟨k, a, b⟩ => ⟨k, a, by omega⟩
    have hkb' : ∀ x, kv'.ownBlock = some x → x ≠ b := fun x hx e => by
      subst e
      rcases hkv2 with h | ⟨k, h, hk⟩
      · exact hkb (h ▸ hx)
      · rw [h] at hx; cases hx; omega
    have hvb' : ∀ x, v'.ownBlock = some x → x ≠ b := fun x hx e => by
      subst e
      rcases hv2 with h | ⟨k, h, hk⟩
      · exact hdb (h ▸ hx)
      · rw [h] at hx; cases hx; omega
    have hkd : ∀ x, kv'.ownBlock = some x → dv.ownBlock ≠ some x := fun x hx e => by
      rcases hkv2 with h | ⟨k, h, hk⟩
      · exact hP.dk x (h ▸ hx) e
      · rw [h] at hx; cases hx; have := hdl x e; omega
    have hrk : (w4.setCell ⟨b, off + 4, none⟩ v').ownsRow 0 9 1 kv' (o.keys.insertIdx i s).length (strs (o.keys.insertIdx i s)) := by
      rw [ins_len o.keys i s hik, strs_ins o.keys i s hik]
      refine own_same ho fun x hx => ?_
      rw [Below.heap_setCell w4 _ _ x (hkb' x hx), hf34.block x (by rw [hs22]; exact hkl x hx) (hkd x hx), Below.heap_setCell w2 _ _ x (hkb' x hx)]
    refine EdPost.ins he hP hi hX hV hrk (own_same ho4 fun x hx => Below.heap_setCell w4 _ _ x (hvb' x hx)) hfull hkv2 (hv2.imp id fun ⟨k, a, b⟩ => ⟨k, a, by omega⟩) (fun x hx hx' => ?_) ?_
    · rcases hv2 with h | ⟨k, h, hk⟩
      · exact hkd x hx (h ▸ hx')
      · rw [h] at hx'; cases hx'; have := hkl x hx; omega
    · exact (hf34.blk hbb hbb.lt hdb).put _ _
  obtain ⟨kv9, dv9, us9, rfl, s91, s92, -, -⟩ := hV.objV.open_
  obtain ⟨A9, c9, rfl⟩ := s91.form
  obtain ⟨D9, e9, rfl⟩ := s92.form
  obtain ⟨Ad, cd, rfl⟩ := own_form hP.hd
  obtain ⟨Ak, ck, rfl⟩ := own_form hP.hk
  dsimp only at x0 x3 x4 HIns
  have HB0 := Lib.hid he.blk
  have HBv := Lib.hid hB
  generalize EdPost _ _ _ _ _ _ _ _ = Post at *
  have hk7 : (o.kind == 7) = true := by simpa using h7
  clear he hP hB hX hV s91 s92 h7 x1 x2 hv1 hlen
  generalize (⟨V.text.toArray⟩ : ByteArray) = TV at *
  generalize V.kind = kV at *
  generalize V.int = iV at *
  generalize V.kids.length = nV at *
  generalize (strs V.keys).length = mV at *
  generalize hn : o.kids.length = n at *
  generalize hnk : o.keys.length = nk at *
  clear hn hnk
  generalize o.kind = k at *
  generalize (⟨s.toArray⟩ : ByteArray) = S at *
  go_enter Tryz.func34, Tryz.ntmps34
  go_wp2_with fail
  have hW : FrS w.heap.size (fun _ => False) w (w.alloc (.cells #[.string S] 9)) := (FrS.refl _ _ _).alloc (Nat.le_refl _) _
  refine (HInsS.out _ (Blk.new w _ _) (fun x hx => hW.block x hx fun h => h)).mono ?_
  rintro e w2 ⟨kv', rfl, ho2, hf2, hv2⟩
  obtain ⟨hfa, hb2, hb3⟩ := hSt.out _ w2 kv' hW hf2
  have HFn := Lib.hid (hFin.out _ w2 kv' hW ho2 hf2 hv2)
  have rl := hb2.lt
  have rf := Blk.frozen hb2 (off + 3)
  have r3 := (Blk.cell hb2 (off + 3)).trans ((Blk.cell HB0.out (off + 3)).symm.trans x3)
  have hvb3 := hfa.blk HBv.out hvl (fun hh => hh.elim hvbb hkvb)
  have HIns3 := Lib.hid (fun W => HIns.out (w2.setCell ⟨b, off + 3, none⟩ kv') W hfa)
  have r4 : (w2.setCell ⟨b, off + 3, none⟩ kv').cell? ⟨b, off + 4, none⟩ = some (.slice Ad n cd) := (Blk.cell hb3 (off + 4)).trans ((Array.getElem?_setIfInBounds_ne (by omega)).trans ((Blk.cell HB0.out (off + 4)).symm.trans x4))
  obtain ⟨Ak', ck', rfl⟩ := own_form ho2
  have HB3 := Lib.hid hb3
  have HV3 := Lib.hid hvb3
  clear hW ho2 hf2 hv2 hfa hb2 hb3 hFin HIns HInsS hSt hvb3 x0 x3 x4 xf
  go_upto_region 8 with (fail)
  clear rl rf r3
  generalize hcs3 : cs.setIfInBounds (off + 3) (Value.slice Ak' (nk + 1) ck') = cs3 at *
  generalize w2.setCell ⟨b, off + 3, none⟩ (Value.slice Ak' (nk + 1) ck') = w3 at *
  clear hcs3
  have hbl3 := HB3.out.lt
  have hvl3 := HV3.out.lt
  obtain ⟨z0, z1, z2, z3, z4⟩ := b5_cells (v := ⟨.int .i64 kV, .int .i64 iV, .string TV, .slice A9 mV c9, .slice D9 nV e9⟩) HV3.out
  dsimp only at z0 z1 z2 z3 z4
  have hS0 : (fun w' : World => (w'.cell? ⟨b, off + 4, none⟩ = some (.slice Ad n cd) ∧ w'.cell? ⟨vb, 0, none⟩ = some (.int .i64 kV) ∧ w'.cell? ⟨vb, 1, none⟩ = some (.int .i64 iV) ∧ w'.cell? ⟨vb, 2, none⟩ = some (.string TV) ∧ w'.cell? ⟨vb, 3, none⟩ = some (.slice A9 mV c9) ∧ w'.cell? ⟨vb, 4, none⟩ = some (.slice D9 nV e9))) w3.drew := ⟨r4, z0, z1, z2, z3, z4⟩
  refine wp_region_tail (fun w' : World => (w'.cell? ⟨b, off + 4, none⟩ = some (.slice Ad n cd) ∧ w'.cell? ⟨vb, 0, none⟩ = some (.int .i64 kV) ∧ w'.cell? ⟨vb, 1, none⟩ = some (.int .i64 iV) ∧ w'.cell? ⟨vb, 2, none⟩ = some (.string TV) ∧ w'.cell? ⟨vb, 3, none⟩ = some (.slice A9 mV c9) ∧ w'.cell? ⟨vb, 4, none⟩ = some (.slice D9 nV e9))) 11 (by kernel_rfl) (by kernel_rfl) hS0 (fun hHeld => ?_)
  refine wpAnyD_take 0 (v := ?_) rfl (by kernel_rfl) (by kernel_rfl) (by kernel_rfl) (fun _ _ _ h => h) hHeld (Or.inl ⟨by rfl, ?_⟩) ?_
  rotate_left
  · intro w' hw'; obtain ⟨a0, a1, a2, a3, a4, a5⟩ := hw'; go_simp; try with_reducible rfl
  try simp only [Act.put, List.setIfInBounds_toArray, List.set_cons_zero, List.set_cons_succ]
  refine wpAnyD_take 1 (v := ?_) rfl (by kernel_rfl) (by kernel_rfl) (by kernel_rfl) (fun _ _ _ h => h) hHeld (Or.inl ⟨by rfl, ?_⟩) ?_
  rotate_left
  · intro w' hw'; obtain ⟨a0, a1, a2, a3, a4, a5⟩ := hw'; go_simp; try with_reducible rfl
  try simp only [Act.put, List.setIfInBounds_toArray, List.set_cons_zero, List.set_cons_succ]
  refine wpAnyD_take 2 (v := ?_) rfl (by kernel_rfl) (by kernel_rfl) (by kernel_rfl) (fun _ _ _ h => h) hHeld (Or.inl ⟨by rfl, ?_⟩) ?_
  rotate_left
  · intro w' hw'; obtain ⟨a0, a1, a2, a3, a4, a5⟩ := hw'; go_simp; try with_reducible rfl
  try simp only [Act.put, List.setIfInBounds_toArray, List.set_cons_zero, List.set_cons_succ]
  refine wpAnyD_take 3 (v := ?_) rfl (by kernel_rfl) (by kernel_rfl) (by kernel_rfl) (fun _ _ _ h => h) hHeld (Or.inl ⟨by rfl, ?_⟩) ?_
  rotate_left
  · intro w' hw'; obtain ⟨a0, a1, a2, a3, a4, a5⟩ := hw'; go_simp; try with_reducible rfl
  try simp only [Act.put, List.setIfInBounds_toArray, List.set_cons_zero, List.set_cons_succ]
  refine wpAnyD_take 4 (v := ?_) rfl (by kernel_rfl) (by kernel_rfl) (by kernel_rfl) (fun _ _ _ h => h) hHeld (Or.inl ⟨by rfl, ?_⟩) ?_
  rotate_left
  · intro w' hw'; obtain ⟨a0, a1, a2, a3, a4, a5⟩ := hw'; go_simp; try with_reducible rfl
  try simp only [Act.put, List.setIfInBounds_toArray, List.set_cons_zero, List.set_cons_succ]
  refine wpAnyD_take 5 (v := ?_) rfl (by kernel_rfl) (by kernel_rfl) (by kernel_rfl) (fun _ _ _ h => h) hHeld (Or.inl ⟨by rfl, ?_⟩) ?_
  rotate_left
  · intro w' hw'; obtain ⟨a0, a1, a2, a3, a4, a5⟩ := hw'; go_simp; try with_reducible rfl
  try simp only [Act.put, List.setIfInBounds_toArray, List.set_cons_zero, List.set_cons_succ]
  refine wpAnyD_take 6 (v := ?_) rfl (by kernel_rfl) (by kernel_rfl) (by kernel_rfl) (fun _ _ _ h => h) hHeld (Or.inl ⟨by rfl, ?_⟩) ?_
  rotate_left
  · intro w' hw'; obtain ⟨a0, a1, a2, a3, a4, a5⟩ := hw'; go_simp; try with_reducible rfl
  try simp only [Act.put, List.setIfInBounds_toArray, List.set_cons_zero, List.set_cons_succ]
  refine wpAnyD_ready [7] (by kernel_rfl) ?_
  refine AllReadyD.cons rfl (fun K hK => ?_) AllReadyD.nil
  go_simp
  refine hK.out _ _ ⟨(cell_lt _ _ _ hbl3).trans r4, (cell_lt _ _ _ hvl3).trans z0, (cell_lt _ _ _ hvl3).trans z1, (cell_lt _ _ _ hvl3).trans z2, (cell_lt _ _ _ hvl3).trans z3, (cell_lt _ _ _ hvl3).trans z4⟩ (fun hHeld => ?_)
  refine wpAnyD_ready [8] (by kernel_rfl) ?_
  refine AllReadyD.cons rfl (fun K hK => ?_) AllReadyD.nil
  go_simp
  have hW : FrS w3.heap.size (fun _ => False) w3 (w3.alloc (.cells #[.int .i64 kV, .int .i64 iV, .string TV, .slice A9 mV c9, .slice D9 nV e9] 25)).drew := ((FrS.refl _ _ _).alloc (Nat.le_refl _) _).drew
  refine (HIns3.out _ (Blk.new w3 _ _).drew (fun x hx => hW.block x hx fun h => h)).mono ?_
  rintro e w4 ⟨v', rfl, ho2, hf2, hv2⟩
  have hlt : w3.heap.size ≤ (w3.alloc (.cells #[.int .i64 kV, .int .i64 iV, .string TV, .slice A9 mV c9, .slice D9 nV e9] 25)).drew.heap.size := hW.size
  have hbW : Blk (w3.alloc (.cells #[.int .i64 kV, .int .i64 iV, .string TV, .slice A9 mV c9, .slice D9 nV e9] 25)).drew b t cs3 := hW.blk HB3.out hbl3 fun h => h
  have hb2 := hf2.blk hbW hbW.lt hdb
  have hvW : B5 (w3.alloc (.cells #[.int .i64 kV, .int .i64 iV, .string TV, .slice A9 mV c9, .slice D9 nV e9] 25)).drew vb ⟨.int .i64 kV, .int .i64 iV, .string TV, .slice A9 mV c9, .slice D9 nV e9⟩ := hW.blk HV3.out hvl3 fun h => h
  have hv2' := hf2.blk hvW hvW.lt hdvb
  obtain ⟨q0, q1, q2, q3, q4⟩ := b5_cells hv2'
  have r44 := (Blk.cell hb2 (off + 4)).trans ((Blk.cell HB3.out (off + 4)).symm.trans r4)
  have rf4 := Blk.frozen hb2 (off + 4)
  have rl4 := hb2.lt
  have hend := HFn.out _ w4 v' hW ho2 hf2 hv2
  obtain ⟨Av, cv, rfl⟩ := own_form ho2
  have HEnd := Lib.hid hend
  clear ho2 hf2 hv2 hend hbW hb2 hvW hv2'
  refine hK.out _ _ ⟨r44, q0, q1, q2, q3, q4⟩ (fun hHeld => ?_)
  refine wpAnyD_take 9 (v := ?_) rfl (by kernel_rfl) (by kernel_rfl) (by kernel_rfl) (fun _ _ _ h => h) hHeld (Or.inl ⟨by rfl, ?_⟩) ?_
  rotate_left
  · intro w' hw'; obtain ⟨a0, a1, a2, a3, a4, a5⟩ := hw'; go_simp; try with_reducible rfl
  try simp only [Act.put, List.setIfInBounds_toArray, List.set_cons_zero, List.set_cons_succ]
  refine wpAnyD_take 10 (v := ?_) rfl (by kernel_rfl) (by kernel_rfl) (by kernel_rfl) (fun _ _ _ h => h) hHeld (Or.inl ⟨by rfl, ?_⟩) ?_
  rotate_left
  · intro w' hw'; obtain ⟨a0, a1, a2, a3, a4, a5⟩ := hw'; go_simp; try with_reducible rfl
  try simp only [Act.put, List.setIfInBounds_toArray, List.set_cons_zero, List.set_cons_succ]
  refine wpAnyD_done (by kernel_rfl) ?_
  simp only [List.drop_succ_cons, List.drop_zero]
  clear hS0 hHeld hK r4 z0 z1 z2 z3 z4 hlt hW q0 q1 q2 q3 q4
  go_wp2_with fail
  exact HEnd.out
end Go.Proofs.YthbdhijkdldmoaaGreatDoor
