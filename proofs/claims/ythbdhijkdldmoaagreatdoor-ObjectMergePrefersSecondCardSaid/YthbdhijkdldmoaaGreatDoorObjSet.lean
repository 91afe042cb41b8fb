/- The walks of Set and Drop. -/
import Derived.Test.YthbdhijkdldmoaaGreatDoorObjEdt
import Derived.Test.YthbdhijkdldmoaaGreatDoorObjDrpC
namespace Go.Proofs.YthbdhijkdldmoaaGreatDoor
open Go.RowKit Tk Ob
theorem enterS (args : Array Value) (w : World) : (callFunc 34 args).run Tryz.prog w = .ok (.enter 34 args) w := by go_simp
theorem enterD (args : Array Value) (w : World) : (callFunc 35 args).run Tryz.prog w = .ok (.enter 35 args) w := by go_simp
/-- Set's closure does what setL says. -/
theorem setc_any (vb : Nat) (vv : V5) (V : Ox) (X : Nat → Prop) (hXv : X vb) (W : World) (b off : Nat) (cs : Array Value) (t : TypeId) (v : V5) (o : Ox) (F : Nat → Prop) (s : Tk.Src) (hI : B5 W vb vv ∧ OwnO W vv V X) (he : Ed W b off cs t v o F) (hX : ∀ x, X x → ¬ F x ∧ x ≠ b) (had : Ad o) (h0 : (stepO o s).2.2 = 0) :
    Calls Tryz.prog 34 (#[.pointer (some ⟨b, off, none⟩), .int .i64 (stepO o s).1, .bool (stepO o s).2.1, .string ⟨s.toArray⟩] ++ #[.pointer (some ⟨vb, 0, none⟩)]) W (EdPost (setL V o (stepO o s).1 (stepO o s).2.1 s) W b off cs t F X) := by
  obtain ⟨hk256, hd256, hso⟩ := had.small
  cases hf : (stepO o s).2.1 with
  | true =>
    obtain ⟨i, hi, hl⟩ := step_found had hf
    rw [hi]
    have e : setL V o (i : Int) true s = .ok (o.withKids o.keys (o.kids.set i V)) := by simp [setL]
    rw [e]
    exact setc_found o V v vv b off vb i cs t F X _ W he hX hI.1 hI.2 hl
  | false =>
    rcases step_none h0 hf with ⟨h7, e⟩ | ⟨h7, e, hle, -⟩
    · have hl := had.lens h7
      have hp := pos_le o.keys s
      rw [e]
      have e2 : setL V o (((posK o.keys s).1 : Nat) : Int) false s = .ok (o.withKids (o.keys.insertIdx (posK o.keys s).1 s) (o.kids.insertIdx (posK o.keys s).1 V)) := by simp [setL, h7]
      rw [e2]
      exact setc_dict o V v vv b off vb _ cs t F X s W he hX hI.1 hI.2 hXv h7 hd256 hl (by omega)
    · rw [e]
      by_cases hi : idxN s = (o.kids.length : Int)
      · rw [hi]
        have e2 : setL V o (o.kids.length : Int) false s = .ok (o.withKids o.keys (o.kids.insertIdx o.kids.length V)) := by simp [setL, h7]
        rw [e2]
        exact setc_list o V v vv b off vb cs t F X _ W he hX hI.1 hI.2 hXv h7 hd256
      · have e2 : setL V o (idxN s) false s = .error 8 := by simp [setL, h7, hi]
        rw [e2]
        exact setc_far o v b off vb _ cs t F X _ W he h7 hi
theorem drpc_all (X : Nat → Prop) (W : World) (b off : Nat) (cs : Array Value) (t : TypeId) (v : V5) (o : Ox) (F : Nat → Prop) (s : Tk.Src) (he : Ed W b off cs t v o F) (hX : ∀ x, X x → ¬ F x ∧ x ≠ b) (had : Ad o) :
    Calls Tryz.prog 35 (#[.pointer (some ⟨b, off, none⟩), .int .i64 (stepO o s).1, .bool (stepO o s).2.1, .string ⟨s.toArray⟩] ++ #[]) W (EdPost (dropL o (stepO o s).1 (stepO o s).2.1 s) W b off cs t F X) := by
  obtain ⟨hk256, hd256, hso⟩ := had.small
  cases hf : (stepO o s).2.1 with
  | true =>
    obtain ⟨i, hi, hl⟩ := step_found had hf
    rw [hi]
    have e : dropL o (i : Int) true s = .ok (o.withKids (if o.kind = 7 then o.keys.eraseIdx i else o.keys) (o.kids.eraseIdx i)) := by simp [dropL]
    rw [e]
    exact drpc_any o v b off i cs t F X _ W he hX hl hd256 had.lens
  | false =>
    have e : dropL o (stepO o s).1 false s = .error 8 := by simp [dropL]
    rw [e]
    exact drpc_none b off _ cs t F X _ W
theorem edit_err {last : Ox → Int → Bool → Tk.Src → Except Int Ox} (hl : ∀ o i f s e, last o i f s = .error e → e ≠ 0) : ∀ (path : List Tk.Src) (o : Ox) (e : Int), editO last path o = .error e → e ≠ 0
  | [], _, e, h => by cases h; decide
  | s :: r, o, e, h => by
    simp only [editO] at h
    split at h
    · rename_i hne; cases h; exact hne
    split at h
    · exact hl _ _ _ _ _ h
    split at h
    · cases h; decide
    split at h
    · rename_i e2 he2; cases h; exact edit_err hl r _ _ he2
    · cases h
theorem setL_err (V o : Ox) (i : Int) (f : Bool) (s : Tk.Src) (e : Int) (h : setL V o i f s = .error e) : e ≠ 0 := by
  unfold setL at h
  split at h
  · cases h
  split at h
  · cases h
  split at h
  · cases h; decide
  · cases h
theorem dropL_err (o : Ox) (i : Int) (f : Bool) (s : Tk.Src) (e : Int) (h : dropL o i f s = .error e) : e ≠ 0 := by
  unfold dropL at h
  split at h
  · cases h; decide
  · cases h
/-- What Set checks at its end. -/
def okR (r : Except Int Ox) : Except Int Ox := match r with
  | .error e => .error e
  | .ok p => if checkO p ≠ 0 then .error (checkO p) else .ok p
/-- Three boxes of a call's own. -/
structure St3 (w wr : World) (v0 v1 v2 : V5) : Prop where
  be : Below w.heap.size w wr
  h0 : B5 wr w.heap.size v0
  h1 : B5 wr (w.heap.size + 1) v1
  h2 : B5 wr (w.heap.size + 2) v2
section
variable {w wr w' : World} {v0 v1 v2 : V5}
theorem St3.later (h : St3 w wr v0 v1 v2) (hb : Below wr.heap.size wr w') : St3 w w' v0 v1 v2 :=
  ⟨h.be.trans (hb.mono h.be.size), h.h0.below hb h.h0.lt, h.h1.below hb h.h1.lt, h.h2.below hb h.h2.lt⟩
theorem St3.put0 (h : St3 w wr v0 v1 v2) (u : V5) : St3 w (((((wr.setCell ⟨w.heap.size, 0, none⟩ u.k).setCell ⟨w.heap.size, 1, none⟩ u.i).setCell ⟨w.heap.size, 2, none⟩ u.t).setCell ⟨w.heap.size, 3, none⟩ u.ks).setCell ⟨w.heap.size, 4, none⟩ u.os) u v1 v2 := by
  have hf := b5_frs' (R := wr.heap.size) (T := fun k => k = w.heap.size) (FrS.refl _ _ wr) rfl u
  have hz := b5_frs (R := w.heap.size) (T := fun _ => False) (FrS.of_below h.be (Nat.le_refl _)) (Nat.le_refl _) u
  exact ⟨hz.below (Nat.le_refl _) (fun _ h => h.elim), b5_put h.h0 u, hf.blk h.h1 h.h1.lt (by omega), hf.blk h.h2 h.h2.lt (by omega)⟩
theorem St3.put1 (h : St3 w wr v0 v1 v2) (u : V5) : St3 w (((((wr.setCell ⟨w.heap.size + 1, 0, none⟩ u.k).setCell ⟨w.heap.size + 1, 1, none⟩ u.i).setCell ⟨w.heap.size + 1, 2, none⟩ u.t).setCell ⟨w.heap.size + 1, 3, none⟩ u.ks).setCell ⟨w.heap.size + 1, 4, none⟩ u.os) v0 u v2 := by
  have hf := b5_frs' (R := wr.heap.size) (T := fun k => k = w.heap.size + 1) (FrS.refl _ _ wr) rfl u
  have hz := b5_frs (R := w.heap.size) (T := fun _ => False) (FrS.of_below h.be (Nat.le_refl _)) (show w.heap.size ≤ w.heap.size + 1 by omega) u
  exact ⟨hz.below (Nat.le_refl _) (fun _ h => h.elim), hf.blk h.h0 h.h0.lt (by omega), b5_put h.h1 u, hf.blk h.h2 h.h2.lt (by omega)⟩
theorem St3.put2 (h : St3 w wr v0 v1 v2) (u : V5) : St3 w (((((wr.setCell ⟨w.heap.size + 2, 0, none⟩ u.k).setCell ⟨w.heap.size + 2, 1, none⟩ u.i).setCell ⟨w.heap.size + 2, 2, none⟩ u.t).setCell ⟨w.heap.size + 2, 3, none⟩ u.ks).setCell ⟨w.heap.size + 2, 4, none⟩ u.os) v0 v1 u := by
  have hf := b5_frs' (R := wr.heap.size) (T := fun k => k = w.heap.size + 2) (FrS.refl _ _ wr) rfl u
  have hz := b5_frs (R := w.heap.size) (T := fun _ => False) (FrS.of_below h.be (Nat.le_refl _)) (show w.heap.size ≤ w.heap.size + 2 by omega) u
  exact ⟨hz.below (Nat.le_refl _) (fun _ h => h.elim), hf.blk h.h0 h.h0.lt (by omega), hf.blk h.h1 h.h1.lt (by omega), b5_put h.h2 u⟩
theorem St3.new (w : World) (v0 v1 v2 : V5) : St3 w (((w.alloc (.cells #[v0.k, v0.i, v0.t, v0.ks, v0.os] 25)).alloc (.cells #[v1.k, v1.i, v1.t, v1.ks, v1.os] 25)).alloc (.cells #[v2.k, v2.i, v2.t, v2.ks, v2.os] 25)) v0 v1 v2 := by
  refine ⟨(((Below.refl _ _).alloc (Nat.le_refl _) _).alloc (by simp) _).alloc (by simp; omega) _, ((Blk.new w _ _).alloc _).alloc _, ?_, ?_⟩
  · have := (Blk.new (w.alloc (.cells #[v0.k, v0.i, v0.t, v0.ks, v0.os] 25)) 25 #[v1.k, v1.i, v1.t, v1.ks, v1.os]).alloc (.cells #[v2.k, v2.i, v2.t, v2.ks, v2.os] 25)
    simpa using this
  · have := Blk.new ((w.alloc (.cells #[v0.k, v0.i, v0.t, v0.ks, v0.os] 25)).alloc (.cells #[v1.k, v1.i, v1.t, v1.ks, v1.os] 25)) 25 #[v2.k, v2.i, v2.t, v2.ks, v2.os]
    simpa using this
end
set_option maxRecDepth 100000 in
set_option maxHeartbeats 16000000 in
theorem set_any (P P2 Q : Nat → Prop) (o V : Ox) (vo vV : V5) (pv : Value) (path : List Tk.Src) (w : World) (ho : ObjV P w vo o) (hV : ObjV P2 w vV V) (hp : Sl w Q pv (strs path)) (hs : ∀ s ∈ path, s.length ≤ 140737488355328) (hT : Tab10 w) (hE : ErrT w) :
    Calls Tryz.prog 17 #[vo.val, pv, vV.val] w (ObPost (setF o path V) w) := by
  have HEr : Hid (∀ W, Below w.heap.size w W → ErrT W) := fun W hW => hE.later hW
  have HCk : Hid (∀ W, Below w.heap.size w W → Calls Tryz.prog 11 #[vo.val] W fun e w' => e = .returned (.int .i64 (checkO o)) ∧ Below W.heap.size W w') := fun W hW => check_obj P o vo W (ho.later hW) (Tab10.later hT hW)
  have HCv : Hid (∀ W, Below w.heap.size w W → Calls Tryz.prog 11 #[vV.val] W fun e w' => e = .returned (.int .i64 (checkO V)) ∧ Below W.heap.size W w') := fun W hW => check_obj P2 V vV W (hV.later hW) (Tab10.later hT hW)
  have HCl : Hid (checkO o = 0 → ∀ W, Below w.heap.size w W → Calls Tryz.prog 28 #[vo.val] W (ClonePost o W)) := fun h W hW => clone_any _ o vo _ W (Nat.le_refl _) (check_ad h) (ho.later hW)
  have HClV : Hid (checkO V = 0 → ∀ W, Below w.heap.size w W → Calls Tryz.prog 28 #[vV.val] W (ClonePost V W)) := fun h W hW => clone_any _ V vV _ W (Nat.le_refl _) (check_ad h) (hV.later hW)
  have HC9 : Hid (∀ (W : World) (v' : V5) (o' : Ox) (G : Nat → Prop), Below w.heap.size w W → OwnO W v' o' G → Calls Tryz.prog 11 #[v'.val] W fun e w' => e = .returned (.int .i64 (checkO o')) ∧ Below W.heap.size W w') := fun W v' o' G hW h => check_obj G o' v' W h.objV (Tab10.later hT hW)
  have HG : Hid (setF o path V = if checkO o ≠ 0 then .error (checkO o) else if checkO V ≠ 0 then .error (checkO V) else if path = [] then .ok V else okR (editO (setL V) path o)) := rfl
  have HAd : Hid (checkO o = 0 → Ad o) := check_ad
  have hp1 : Sl w (fun k => k < w.heap.size) pv (strs path) := hp.mono fun k hk _ => hk
  have HEdit : Hid (checkO o = 0 → path ≠ [] → ∀ (W : World) (vv vo9 : V5) (F X : Nat → Prop) (vb b : Nat) (cs : Array Value) (t : TypeId), Below w.heap.size w W → X vb → B5 W vb vv → OwnO W vv V X → Ed W b 0 cs t vo9 o F → (∀ x, X x → ¬ F x ∧ x ≠ b) →
      Calls Tryz.prog 33 #[.pointer (some ⟨b, 0, none⟩), pv, .func (.func 34) #[] #[.pointer (some ⟨vb, 0, none⟩)]] W (EdPost (editO (setL V) path o) W b 0 cs t F X)) := fun h hne W vv vo9 F X vb b cs t hW hXv hB hOv hEd hX =>
    edit_any 34 #[.pointer (some ⟨vb, 0, none⟩)] (setL V) X (fun W => B5 W vb vv ∧ OwnO W vv V X) enterS (fun W W' hi hb => ⟨hi.1.below hb hi.1.lt, hi.2.keep fun x _ hl => hb.block x hl⟩) (fun W b off cs t v o F s => setc_any vb vv V X hXv W b off cs t v o F s) path o vo9 b 0 cs t F _ pv W hne hs ⟨hB, hOv⟩ hEd hX (check_ad h) (hp1.later hW) (hE.later hW)
  have HP := Lib.hid hp1
  have HS := Lib.hid hs
  have HVal : Hid (∀ u : V5, u.val = .agg #[u.k, u.i, u.t, u.ks, u.os]) := fun _ => rfl
  obtain ⟨kv, dv, vs, rfl, h1, h2, -, -⟩ := ho.open_
  obtain ⟨A, ck, rfl⟩ := h1.form
  obtain ⟨Bd, cd, rfl⟩ := h2.form
  obtain ⟨kv2, dv2, vs2, rfl, k1, k2, -, -⟩ := hV.open_
  obtain ⟨A2, ck2, rfl⟩ := k1.form
  obtain ⟨B2, cd2, rfl⟩ := k2.form
  obtain ⟨Pa, pc, rfl⟩ := hp1.form
  have hpl : (strs path).length = path.length := by simp [strs]
  have hpc := hp1.cap_le
  rw [hpl] at hpc
  unfold maxLen at hpc
  rw [hpl] at HP ⊢
  rw [hpl] at HEdit
  unfold V5.val at HCk HCl HCv HClV ⊢
  dsimp only at HCk HCl HCv HClV ⊢
  generalize setF o path V = R at *
  have HREe : Hid (∀ e, editO (setL V) path o = .error e → e ≠ 0) := fun e => edit_err (fun o i f s e => setL_err V o i f s e) path o e
  generalize editO (setL V) path o = RE at *
  have HSt := Lib.hid (St3.new w ⟨.int .i64 o.kind, .int .i64 o.int, .string ⟨o.text.toArray⟩, .slice A (strs o.keys).length ck, .slice Bd o.kids.length cd⟩ ⟨.int .i64 V.kind, .int .i64 V.int, .string ⟨V.text.toArray⟩, .slice A2 (strs V.keys).length ck2, .slice B2 V.kids.length cd2⟩ ⟨.int .i64 0, .int .i64 0, .string ⟨#[]⟩, .slice none 0 0, .slice none 0 0⟩)
  generalize (strs o.keys).length = nk at *
  generalize o.kids.length = nd at *
  generalize (strs V.keys).length = nk2 at *
  generalize V.kids.length = nd2 at *
  generalize o.kind = k0 at *
  generalize o.int = i0 at *
  generalize (⟨o.text.toArray⟩ : ByteArray) = T0 at *
  generalize V.kind = kV at *
  generalize V.int = iV at *
  generalize (⟨V.text.toArray⟩ : ByteArray) = TV at *
  generalize hC : checkO o = C at *
  generalize hCV : checkO V = CV at *
  clear h1 h2 k1 k2 ho hV hp hp1 hs hC hCV hE hT
  go_enter Tryz.func17, Tryz.ntmps17
  go_wp2_with fail
  refine (HCk.out _ HSt.out.be).mono ?_
  rintro e w1 ⟨rfl, hb1⟩
  have HSt1 := Lib.hid (HSt.out.later hb1)
  clear hb1 HSt HCk
  by_cases hc : C = 0
  case neg =>
    have HR : Hid (R = .error C) := by have := HG.out; rw [if_pos hc] at this; exact this
    have hcb : (C != 0) = true := by simpa using hc
    obtain ⟨z0, z1, z2, z3, z4⟩ := b5_cells (v := ⟨.int .i64 0, .int .i64 0, .string ⟨#[]⟩, .slice none 0 0, .slice none 0 0⟩) HSt1.out.h2
    have zf := fun k => Blk.frozen HSt1.out.h2 k
    have zl := HSt1.out.h2.lt
    go_wp2_with fail
    have hst := HSt1.out.put2 ⟨.int .i64 0, .int .i64 0, .string ⟨#[]⟩, .slice none 0 0, .slice none 0 0⟩
    refine bodyPost_ret (v := .tuple #[.agg #[.int .i64 0, .int .i64 0, .string ⟨#[]⟩, .slice none 0 0, .slice none 0 0], .int .i64 C]) ?_ rfl ?_
    · obtain ⟨r0, r1, r2, r3, r4⟩ := b5_cells (v := ⟨.int .i64 0, .int .i64 0, .string ⟨#[]⟩, .slice none 0 0, .slice none 0 0⟩) hst.h2
      clear hst
      generalize World.setCell _ _ _ = W at *
      simp [results, Tryz.results17, go_sem, r0, r1, r2, r3, r4]
    · refine ⟨hst.be, ?_⟩
      rw [HR.out]
  subst hc
  have hcb : ((0 : Int) != 0) = false := rfl
  have hcb2 : ((0 : Int) == 0) = true := rfl
  obtain ⟨y0, y1, y2, y3, y4⟩ := b5_cells (v := ⟨.int .i64 kV, .int .i64 iV, .string TV, .slice A2 nk2 ck2, .slice B2 nd2 cd2⟩) HSt1.out.h1
  dsimp only at y0 y1 y2 y3 y4
  go_wp2_with fail
  refine (HCv.out _ HSt1.out.be).mono ?_
  rintro e w2 ⟨rfl, hb2⟩
  have HSt2 := Lib.hid (HSt1.out.later hb2)
  clear hb2 HSt1 HCv y0 y1 y2 y3 y4
  by_cases hc : CV = 0
  case neg =>
    have HR : Hid (R = .error CV) := by have := HG.out; rw [if_neg (by simp), if_pos hc] at this; exact this
    have hcb3 : (CV != 0) = true := by simpa using hc
    obtain ⟨z0, z1, z2, z3, z4⟩ := b5_cells (v := ⟨.int .i64 0, .int .i64 0, .string ⟨#[]⟩, .slice none 0 0, .slice none 0 0⟩) HSt2.out.h2
    have zf := fun k => Blk.frozen HSt2.out.h2 k
    have zl := HSt2.out.h2.lt
    go_wp2_with fail
    have hst := HSt2.out.put2 ⟨.int .i64 0, .int .i64 0, .string ⟨#[]⟩, .slice none 0 0, .slice none 0 0⟩
    refine bodyPost_ret (v := .tuple #[.agg #[.int .i64 0, .int .i64 0, .string ⟨#[]⟩, .slice none 0 0, .slice none 0 0], .int .i64 CV]) ?_ rfl ?_
    · obtain ⟨r0, r1, r2, r3, r4⟩ := b5_cells (v := ⟨.int .i64 0, .int .i64 0, .string ⟨#[]⟩, .slice none 0 0, .slice none 0 0⟩) hst.h2
      clear hst
      generalize World.setCell _ _ _ = W at *
      simp [results, Tryz.results17, go_sem, r0, r1, r2, r3, r4]
    · refine ⟨hst.be, ?_⟩
      rw [HR.out]
  subst hc
  obtain ⟨y0, y1, y2, y3, y4⟩ := b5_cells (v := ⟨.int .i64 kV, .int .i64 iV, .string TV, .slice A2 nk2 ck2, .slice B2 nd2 cd2⟩) HSt2.out.h1
  dsimp only at y0 y1 y2 y3 y4
  go_wp2_with fail
  refine (HClV.out (by first | rfl | trivial) _ HSt2.out.be).mono ?_
  rintro e w3 ⟨hb3, v9, rfl, hov⟩
  have HSt3 := Lib.hid (HSt2.out.later hb3)
  have HO3 := Lib.hid hov
  have hz23 := hb3.size
  have hz02 := HSt2.out.h2.lt
  clear hb3 HSt2 HClV y0 y1 y2 y3 y4 hov
  have hov := HO3.out
  obtain ⟨kv9, dv9, us9, rfl, s1, s2, -, -⟩ := hov.objV.open_
  obtain ⟨A9, c9, rfl⟩ := s1.form
  obtain ⟨B9, d9, rfl⟩ := s2.form
  clear hov s1 s2
  unfold V5.val
  dsimp only
  generalize hz9 : (⟨.int .i64 V.kind, .int .i64 V.int, .string ⟨V.text.toArray⟩, .slice A9 (strs V.keys).length c9, .slice B9 V.kids.length d9⟩ : V5) = u9 at HO3
  have HU9 := Lib.hid hz9
  clear hz9
  generalize (strs V.keys).length = n9 at *
  generalize V.kids.length = m9 at *
  generalize V.kind = k9 at *
  generalize V.int = i9 at *
  generalize (⟨V.text.toArray⟩ : ByteArray) = T9 at *
  have zf := fun k => Blk.frozen HSt3.out.h1 k
  have zl := HSt3.out.h1.lt
  obtain ⟨y0, y1, y2, y3, y4⟩ := b5_cells (v := ⟨.int .i64 kV, .int .i64 iV, .string TV, .slice A2 nk2 ck2, .slice B2 nd2 cd2⟩) HSt3.out.h1
  go_upto_region 8 with (fail)
  clear zf zl y0 y1 y2 y3 y4
  have hst4 := HSt3.out.put1 ⟨.int .i64 k9, .int .i64 i9, .string T9, .slice A9 n9 c9, .slice B9 m9 d9⟩
  have hf4 := b5_frs' (R := w3.heap.size) (T := fun k => k = w.heap.size + 1) (FrS.refl _ _ w3) rfl ⟨.int .i64 k9, .int .i64 i9, .string T9, .slice A9 n9 c9, .slice B9 m9 d9⟩
  have HO4 : Hid (OwnO _ u9 V (fun x => w2.heap.size ≤ x ∧ x < w3.heap.size)) := (by
    obtain ⟨G, g1, g2, g3⟩ := HO3.out.lt
    exact (g1.mono fun x hx => (⟨g2 x hx, g3 x hx⟩ : w2.heap.size ≤ x ∧ x < w3.heap.size)).keep fun x hx hl => hf4.block x hl (by omega))
  have HS34 : Hid (w3.heap.size = (((((w3.setCell ⟨w.heap.size + 1, 0, none⟩ (.int .i64 k9)).setCell ⟨w.heap.size + 1, 1, none⟩ (.int .i64 i9)).setCell ⟨w.heap.size + 1, 2, none⟩ (.string T9)).setCell ⟨w.heap.size + 1, 3, none⟩ (.slice A9 n9 c9)).setCell ⟨w.heap.size + 1, 4, none⟩ (.slice B9 m9 d9)).heap.size) := by unfold Hid; simp [World.setCell]
  dsimp only at hst4 hf4
  have HSt4 := Lib.hid hst4
  clear hst4 hf4 HO3 HSt3
  generalize (((((w3.setCell ⟨w.heap.size + 1, 0, none⟩ (.int .i64 k9)).setCell ⟨w.heap.size + 1, 1, none⟩ (.int .i64 i9)).setCell ⟨w.heap.size + 1, 2, none⟩ (.string T9)).setCell ⟨w.heap.size + 1, 3, none⟩ (.slice A9 n9 c9)).setCell ⟨w.heap.size + 1, 4, none⟩ (.slice B9 m9 d9)) = w4 at *
  cases path with
  | nil =>
    have HR : Hid (R = .ok V) := by have := HG.out; rw [if_neg (by simp), if_neg (by simp), if_pos rfl] at this; exact this
    have hl0 : ([] : List Tk.Src).length = 0 := rfl
    obtain ⟨y0, y1, y2, y3, y4⟩ := b5_cells (v := ⟨.int .i64 k9, .int .i64 i9, .string T9, .slice A9 n9 c9, .slice B9 m9 d9⟩) HSt4.out.h1
    dsimp only at y0 y1 y2 y3 y4
    obtain ⟨z0, z1, z2, z3, z4⟩ := b5_cells (v := ⟨.int .i64 0, .int .i64 0, .string ⟨#[]⟩, .slice none 0 0, .slice none 0 0⟩) HSt4.out.h2
    have zf := fun k => Blk.frozen HSt4.out.h2 k
    have zl := HSt4.out.h2.lt
    go_wp2_with fail
    have hst := HSt4.out.put2 ⟨.int .i64 k9, .int .i64 i9, .string T9, .slice A9 n9 c9, .slice B9 m9 d9⟩
    have hfw := b5_frs' (R := w4.heap.size) (T := fun k => k = w.heap.size + 2) (FrS.refl _ _ w4) rfl ⟨.int .i64 k9, .int .i64 i9, .string T9, .slice A9 n9 c9, .slice B9 m9 d9⟩
    refine bodyPost_ret (v := .tuple #[.agg #[.int .i64 k9, .int .i64 i9, .string T9, .slice A9 n9 c9, .slice B9 m9 d9], .int .i64 0]) ?_ rfl ?_
    · obtain ⟨r0, r1, r2, r3, r4⟩ := b5_cells (v := ⟨.int .i64 k9, .int .i64 i9, .string T9, .slice A9 n9 c9, .slice B9 m9 d9⟩) hst.h2
      clear hst hfw
      generalize World.setCell _ _ _ = W at *
      simp [results, Tryz.results17, go_sem, r0, r1, r2, r3, r4]
    · refine ⟨hst.be, ?_⟩
      rw [HR.out]
      have ho := (HO4.out.keep fun x hx hl => hfw.block x hl (by omega)).mono (G := fun x => w.heap.size ≤ x) fun x hx => by omega
      rw [← HU9.out] at ho
      exact ⟨_, rfl, ho⟩
  | cons s r =>
    have HRn : Hid (R = okR RE) := by have := HG.out; rw [if_neg (by simp), if_neg (by simp), if_neg (by simp)] at this; exact this
    have hl1 : (s :: r).length = r.length + 1 := rfl
    have hl2 : ((r.length : Int) + 1 == 0) = false := beq_eq_false_iff_ne.2 (by omega)
    clear HG
    obtain ⟨x0, x1, x2, x3, x4⟩ := b5_cells (v := ⟨.int .i64 k0, .int .i64 i0, .string T0, .slice A nk ck, .slice Bd nd cd⟩) HSt4.out.h0
    dsimp only at x0 x1 x2 x3 x4
    go_wp2_with fail
    refine (HCl.out (by first | rfl | trivial) _ HSt4.out.be).mono ?_
    rintro e w5 ⟨hb5, v8, rfl, hov⟩
    have HSt5 := Lib.hid (HSt4.out.later hb5)
    have HO5 := Lib.hid hov
    have HV5 := Lib.hid (HO4.out.keep (w' := w5) fun x hx hl => hb5.block x hl)
    have hz45 := hb5.size
    obtain ⟨kv8, dv8, us8, rfl, s1, s2, -, -⟩ := hov.objV.open_
    obtain ⟨A8, c8, rfl⟩ := s1.form
    obtain ⟨B8, d8, rfl⟩ := s2.form
    clear hov s1 s2 hb5 x0 x1 x2 x3 x4
    unfold V5.val
    dsimp only
    generalize hz8 : (⟨.int .i64 o.kind, .int .i64 o.int, .string ⟨o.text.toArray⟩, .slice A8 (strs o.keys).length c8, .slice B8 o.kids.length d8⟩ : V5) = u8 at HO5
    have HU8 := Lib.hid hz8
    clear hz8
    generalize (strs o.keys).length = n8 at *
    generalize o.kids.length = m8 at *
    generalize o.kind = k8 at *
    generalize o.int = i8 at *
    generalize (⟨o.text.toArray⟩ : ByteArray) = T8 at *
    have zf := fun k => Blk.frozen HSt5.out.h0 k
    have zl := HSt5.out.h0.lt
    obtain ⟨y0, y1, y2, y3, y4⟩ := b5_cells (v := ⟨.int .i64 k0, .int .i64 i0, .string T0, .slice A nk ck, .slice Bd nd cd⟩) HSt5.out.h0
    go_upto_region 11 with (fail)
    clear zf zl y0 y1 y2 y3 y4
    have hst6 := HSt5.out.put0 ⟨.int .i64 k8, .int .i64 i8, .string T8, .slice A8 n8 c8, .slice B8 m8 d8⟩
    have hf6 := b5_frs' (R := w5.heap.size) (T := fun k => k = w.heap.size) (FrS.refl _ _ w5) rfl ⟨.int .i64 k8, .int .i64 i8, .string T8, .slice A8 n8 c8, .slice B8 m8 d8⟩
    have hz34 : w3.heap.size ≤ w4.heap.size ∧ w4.heap.size ≤ w3.heap.size := by have := HS34.out; omega
    have ho6 : OwnO _ u8 o (fun x => w4.heap.size ≤ x) := HO5.out.keep fun x hx hl => hf6.block x hl (by omega)
    have hv6 : OwnO _ u9 V (fun x => x = w.heap.size + 1 ∨ (w2.heap.size ≤ x ∧ x < w3.heap.size)) := (HV5.out.keep fun x hx hl => hf6.block x hl (by omega)).mono fun x hx => .inr hx
    have hs56 := hf6.size
    dsimp only at hst6 ho6 hv6 hs56
    have HSt6 := Lib.hid hst6
    have HO6 := Lib.hid ho6
    have HV6 := Lib.hid hv6
    clear hst6 hf6 ho6 hv6 HO5 HSt5 HV5 HO4 HSt4
    generalize (((((w5.setCell ⟨w.heap.size, 0, none⟩ (.int .i64 k8)).setCell ⟨w.heap.size, 1, none⟩ (.int .i64 i8)).setCell ⟨w.heap.size, 2, none⟩ (.string T8)).setCell ⟨w.heap.size, 3, none⟩ (.slice A8 n8 c8)).setCell ⟨w.heap.size, 4, none⟩ (.slice B8 m8 d8)) = w6 at *
    have hEd : Ed w6 w.heap.size 0 #[.int .i64 k8, .int .i64 i8, .string T8, .slice A8 n8 c8, .slice B8 m8 d8] 25 u8 o (fun x => w4.heap.size ≤ x) := ⟨HSt6.out.h0, fun j u hu => by rw [Nat.zero_add, List.getElem?_toArray]; rw [← HU8.out] at hu; exact hu, HO6.out, fun h => by omega⟩
    have hB9 : B5 w6 (w.heap.size + 1) u9 := by rw [← HU9.out]; exact HSt6.out.h1
    have HE6 := Lib.hid (HEdit.out (by first | rfl | trivial) (by simp) w6 u9 u8 (fun x => w4.heap.size ≤ x) (fun x => x = w.heap.size + 1 ∨ (w2.heap.size ≤ x ∧ x < w3.heap.size)) (w.heap.size + 1) w.heap.size #[.int .i64 k8, .int .i64 i8, .string T8, .slice A8 n8 c8, .slice B8 m8 d8] 25 HSt6.out.be (.inl rfl) hB9 HV6.out hEd (fun x hx => by omega))
    clear hEd hB9 HO6 HV6 HEdit
    go_wp2_with fail
    refine HE6.out.mono ?_
    rintro e w7 ⟨hf7, h2⟩
    have hbl7 : Below w.heap.size w6 w7 := hf7.below HSt6.out.be.size (fun k hk => by omega)
    have HBl7 := Lib.hid (HSt6.out.be.trans hbl7)
    have HB27 := Lib.hid (hf7.blk HSt6.out.h2 HSt6.out.h2.lt (by omega))
    have HB17 := Lib.hid (hf7.blk HSt6.out.h1 HSt6.out.h1.lt (by omega))
    clear hbl7 hf7 HE6
    cases RE with
    | error c =>
      dsimp only at h2
      subst h2
      have hne := HREe.out c rfl
      have HR : Hid (R = .error c) := HRn.out
      have hcb5 : (c == 0) = false := by simpa using hne
      have hcb6 : (c != 0) = true := by simpa using hne
      obtain ⟨z0, z1, z2, z3, z4⟩ := b5_cells (v := ⟨.int .i64 0, .int .i64 0, .string ⟨#[]⟩, .slice none 0 0, .slice none 0 0⟩) HB27.out
      have zf := fun k => Blk.frozen HB27.out k
      have zl := HB27.out.lt
      clear hne
      go_wp2_with fail
      have hbz := b5_put (v := ⟨.int .i64 0, .int .i64 0, .string ⟨#[]⟩, .slice none 0 0, .slice none 0 0⟩) HB27.out ⟨.int .i64 0, .int .i64 0, .string ⟨#[]⟩, .slice none 0 0, .slice none 0 0⟩
      have hfz := b5_frs (R := w.heap.size) (T := fun _ => False) (FrS.of_below HBl7.out (Nat.le_refl _)) (show w.heap.size ≤ w.heap.size + 2 by omega) ⟨.int .i64 0, .int .i64 0, .string ⟨#[]⟩, .slice none 0 0, .slice none 0 0⟩
      refine bodyPost_ret (v := .tuple #[.agg #[.int .i64 0, .int .i64 0, .string ⟨#[]⟩, .slice none 0 0, .slice none 0 0], .int .i64 c]) ?_ rfl ?_
      · obtain ⟨r0, r1, r2, r3, r4⟩ := b5_cells hbz
        clear hbz hfz
        generalize World.setCell _ _ _ = W at *
        simp [results, Tryz.results17, go_sem, r0, r1, r2, r3, r4]
      · refine ⟨hfz.below (Nat.le_refl _) (fun _ h => h.elim), ?_⟩
        rw [HR.out]
    | ok p =>
      obtain ⟨rfl, v7, hb7, ho7⟩ := h2
      have HR : Hid (R = if checkO p ≠ 0 then .error (checkO p) else .ok p) := HRn.out
      have hb7' : B5 w7 w.heap.size v7 := hb7
      have HSt7 := Lib.hid (⟨HBl7.out, hb7', HB17.out, HB27.out⟩ : St3 w w7 v7 ⟨.int .i64 k9, .int .i64 i9, .string T9, .slice A9 n9 c9, .slice B9 m9 d9⟩ ⟨.int .i64 0, .int .i64 0, .string ⟨#[]⟩, .slice none 0 0, .slice none 0 0⟩)
      have HO7 := Lib.hid (ho7.mono (G := fun x => w.heap.size ≤ x ∧ x ≠ w.heap.size + 2) fun x hx => by have := HSt6.out.be.size; omega)
      have HC7 := Lib.hid (HC9.out w7 v7 p _ HBl7.out HO7.out)
      clear hb7 hb7' ho7
      have hov := HO7.out
      obtain ⟨kv7, dv7, us7, rfl, s1, s2, -, -⟩ := hov.objV.open_
      obtain ⟨A7, c7, rfl⟩ := s1.form
      obtain ⟨B7, d7, rfl⟩ := s2.form
      clear hov s1 s2
      unfold V5.val at HC7
      dsimp only at HC7
      generalize hz7 : (⟨.int .i64 p.kind, .int .i64 p.int, .string ⟨p.text.toArray⟩, .slice A7 (strs p.keys).length c7, .slice B7 p.kids.length d7⟩ : V5) = u7 at HO7
      have HU7 := Lib.hid hz7
      clear hz7
      generalize hcp : checkO p = c at *
      generalize (strs p.keys).length = n7 at *
      generalize p.kids.length = m7 at *
      generalize p.kind = k7 at *
      generalize p.int = i7 at *
      generalize (⟨p.text.toArray⟩ : ByteArray) = T7 at *
      clear hcp
      obtain ⟨y0, y1, y2, y3, y4⟩ := b5_cells (v := ⟨.int .i64 k7, .int .i64 i7, .string T7, .slice A7 n7 c7, .slice B7 m7 d7⟩) HSt7.out.h0
      dsimp only at y0 y1 y2 y3 y4
      go_wp2_with fail
      refine HC7.out.mono ?_
      rintro e w8 ⟨rfl, hb8⟩
      have HSt8 := Lib.hid (HSt7.out.later hb8)
      have HO8 := Lib.hid (HO7.out.keep (w' := w8) fun x _ hl => hb8.block x hl)
      clear hb8 HSt7 HO7 HC7 y0 y1 y2 y3 y4
      by_cases hc : c = 0
      case neg =>
        have HR2 : Hid (R = .error c) := by have := HR.out; rw [if_pos hc] at this; exact this
        have hcb3 : (c != 0) = true := by simpa using hc
        obtain ⟨z0, z1, z2, z3, z4⟩ := b5_cells (v := ⟨.int .i64 0, .int .i64 0, .string ⟨#[]⟩, .slice none 0 0, .slice none 0 0⟩) HSt8.out.h2
        have zf := fun k => Blk.frozen HSt8.out.h2 k
        have zl := HSt8.out.h2.lt
        go_wp2_with fail
        have hst := HSt8.out.put2 ⟨.int .i64 0, .int .i64 0, .string ⟨#[]⟩, .slice none 0 0, .slice none 0 0⟩
        refine bodyPost_ret (v := .tuple #[.agg #[.int .i64 0, .int .i64 0, .string ⟨#[]⟩, .slice none 0 0, .slice none 0 0], .int .i64 c]) ?_ rfl ?_
        · obtain ⟨r0, r1, r2, r3, r4⟩ := b5_cells (v := ⟨.int .i64 0, .int .i64 0, .string ⟨#[]⟩, .slice none 0 0, .slice none 0 0⟩) hst.h2
          clear hst
          generalize World.setCell _ _ _ = W at *
          simp [results, Tryz.results17, go_sem, r0, r1, r2, r3, r4]
        · refine ⟨hst.be, ?_⟩
          rw [HR2.out]
      subst hc
      have HR2 : Hid (R = .ok p) := by have := HR.out; rw [if_neg (by simp)] at this; exact this
      obtain ⟨y0, y1, y2, y3, y4⟩ := b5_cells (v := ⟨.int .i64 k7, .int .i64 i7, .string T7, .slice A7 n7 c7, .slice B7 m7 d7⟩) HSt8.out.h0
      dsimp only at y0 y1 y2 y3 y4
      obtain ⟨z0, z1, z2, z3, z4⟩ := b5_cells (v := ⟨.int .i64 0, .int .i64 0, .string ⟨#[]⟩, .slice none 0 0, .slice none 0 0⟩) HSt8.out.h2
      have zf := fun k => Blk.frozen HSt8.out.h2 k
      have zl := HSt8.out.h2.lt
      go_wp2_with fail
      have hst := HSt8.out.put2 ⟨.int .i64 k7, .int .i64 i7, .string T7, .slice A7 n7 c7, .slice B7 m7 d7⟩
      have hfw := b5_frs' (R := w8.heap.size) (T := fun k => k = w.heap.size + 2) (FrS.refl _ _ w8) rfl ⟨.int .i64 k7, .int .i64 i7, .string T7, .slice A7 n7 c7, .slice B7 m7 d7⟩
      refine bodyPost_ret (v := .tuple #[.agg #[.int .i64 k7, .int .i64 i7, .string T7, .slice A7 n7 c7, .slice B7 m7 d7], .int .i64 0]) ?_ rfl ?_
      · obtain ⟨r0, r1, r2, r3, r4⟩ := b5_cells (v := ⟨.int .i64 k7, .int .i64 i7, .string T7, .slice A7 n7 c7, .slice B7 m7 d7⟩) hst.h2
        clear hst hfw
        generalize World.setCell _ _ _ = W at *
        simp [results, Tryz.results17, go_sem, r0, r1, r2, r3, r4]
      · refine ⟨hst.be, ?_⟩
        rw [HR2.out]
        have ho := (HO8.out.keep fun x hx hl => hfw.block x hl hx.2).mono (G := fun x => w.heap.size ≤ x) fun x hx => hx.1
        rw [← HU7.out] at ho
        exact ⟨_, rfl, ho⟩
/-- Two boxes of a call's own. -/
structure St2 (w wr : World) (v0 v1 : V5) : Prop where
  be : Below w.heap.size w wr
  h0 : B5 wr w.heap.size v0
  h1 : B5 wr (w.heap.size + 1) v1
section
variable {w wr w' : World} {v0 v1 : V5}
theorem St2.later (h : St2 w wr v0 v1) (hb : Below wr.heap.size wr w') : St2 w w' v0 v1 :=
  ⟨h.be.trans (hb.mono h.be.size), h.h0.below hb h.h0.lt, h.h1.below hb h.h1.lt⟩
theorem St2.put0 (h : St2 w wr v0 v1) (u : V5) : St2 w (((((wr.setCell ⟨w.heap.size, 0, none⟩ u.k).setCell ⟨w.heap.size, 1, none⟩ u.i).setCell ⟨w.heap.size, 2, none⟩ u.t).setCell ⟨w.heap.size, 3, none⟩ u.ks).setCell ⟨w.heap.size, 4, none⟩ u.os) u v1 := by
  have hf := b5_frs' (R := wr.heap.size) (T := fun k => k = w.heap.size) (FrS.refl _ _ wr) rfl u
  have hz := b5_frs (R := w.heap.size) (T := fun _ => False) (FrS.of_below h.be (Nat.le_refl _)) (Nat.le_refl _) u
  exact ⟨hz.below (Nat.le_refl _) (fun _ h => h.elim), b5_put h.h0 u, hf.blk h.h1 h.h1.lt (by omega)⟩
theorem St2.put1 (h : St2 w wr v0 v1) (u : V5) : St2 w (((((wr.setCell ⟨w.heap.size + 1, 0, none⟩ u.k).setCell ⟨w.heap.size + 1, 1, none⟩ u.i).setCell ⟨w.heap.size + 1, 2, none⟩ u.t).setCell ⟨w.heap.size + 1, 3, none⟩ u.ks).setCell ⟨w.heap.size + 1, 4, none⟩ u.os) v0 u := by
  have hf := b5_frs' (R := wr.heap.size) (T := fun k => k = w.heap.size + 1) (FrS.refl _ _ wr) rfl u
  have hz := b5_frs (R := w.heap.size) (T := fun _ => False) (FrS.of_below h.be (Nat.le_refl _)) (show w.heap.size ≤ w.heap.size + 1 by omega) u
  exact ⟨hz.below (Nat.le_refl _) (fun _ h => h.elim), hf.blk h.h0 h.h0.lt (by omega), b5_put h.h1 u⟩
theorem St2.new (w : World) (v0 v1 : V5) : St2 w ((w.alloc (.cells #[v0.k, v0.i, v0.t, v0.ks, v0.os] 25)).alloc (.cells #[v1.k, v1.i, v1.t, v1.ks, v1.os] 25)) v0 v1 := by
  refine ⟨((Below.refl _ _).alloc (Nat.le_refl _) _).alloc (by simp) _, (Blk.new w _ _).alloc _, ?_⟩
  have := Blk.new (w.alloc (.cells #[v0.k, v0.i, v0.t, v0.ks, v0.os] 25)) 25 #[v1.k, v1.i, v1.t, v1.ks, v1.os]
  simpa using this
end
set_option maxRecDepth 100000 in
set_option maxHeartbeats 16000000 in
theorem drop_any (P Q : Nat → Prop) (o : Ox) (vo : V5) (pv : Value) (path : List Tk.Src) (w : World) (ho : ObjV P w vo o) (hp : Sl w Q pv (strs path)) (hs : ∀ s ∈ path, s.length ≤ 140737488355328) (hT : Tab10 w) (hE : ErrT w) :
    Calls Tryz.prog 18 #[vo.val, pv] w (ObPost (dropF o path) w) := by
  have HCk : Hid (∀ W, Below w.heap.size w W → Calls Tryz.prog 11 #[vo.val] W fun e w' => e = .returned (.int .i64 (checkO o)) ∧ Below W.heap.size W w') := fun W hW => check_obj P o vo W (ho.later hW) (Tab10.later hT hW)
  have HCl : Hid (checkO o = 0 → ∀ W, Below w.heap.size w W → Calls Tryz.prog 28 #[vo.val] W (ClonePost o W)) := fun h W hW => clone_any _ o vo _ W (Nat.le_refl _) (check_ad h) (ho.later hW)
  have HG : Hid (dropF o path = if checkO o ≠ 0 then .error (checkO o) else if path = [] then .error 8 else editO dropL path o) := rfl
  have hp1 : Sl w (fun k => k < w.heap.size) pv (strs path) := hp.mono fun k hk _ => hk
  have HEdit : Hid (checkO o = 0 → path ≠ [] → ∀ (W : World) (vo9 : V5) (F : Nat → Prop) (b : Nat) (cs : Array Value) (t : TypeId), Below w.heap.size w W → Ed W b 0 cs t vo9 o F →
      Calls Tryz.prog 33 #[.pointer (some ⟨b, 0, none⟩), pv, .func (.func 35) #[] #[]] W (EdPost (editO dropL path o) W b 0 cs t F fun _ => False)) := fun h hne W vo9 F b cs t hW hEd =>
    edit_any 35 #[] dropL (fun _ => False) (fun _ => True) enterD (fun W W' hi hb => trivial) (fun W b off cs t v o F s _ he hX had _ => drpc_all _ W b off cs t v o F s he hX had) path o vo9 b 0 cs t F _ pv W hne hs trivial hEd (fun _ h => h.elim) (check_ad h) (hp1.later hW) (hE.later hW)
  have HP := Lib.hid hp1
  obtain ⟨kv, dv, vs, rfl, h1, h2, -, -⟩ := ho.open_
  obtain ⟨A, ck, rfl⟩ := h1.form
  obtain ⟨Bd, cd, rfl⟩ := h2.form
  obtain ⟨Pa, pc, rfl⟩ := hp1.form
  have hpl : (strs path).length = path.length := by simp [strs]
  have hpc := hp1.cap_le
  rw [hpl] at hpc
  unfold maxLen at hpc
  rw [hpl] at HP ⊢
  rw [hpl] at HEdit
  unfold V5.val at HCk HCl ⊢
  dsimp only at HCk HCl ⊢
  generalize dropF o path = R at *
  have HREe : Hid (∀ e, editO dropL path o = .error e → e ≠ 0) := fun e => edit_err (fun o i f s e => dropL_err o i f s e) path o e
  generalize editO dropL path o = RE at *
  have HSt := Lib.hid (St2.new w ⟨.int .i64 o.kind, .int .i64 o.int, .string ⟨o.text.toArray⟩, .slice A (strs o.keys).length ck, .slice Bd o.kids.length cd⟩ ⟨.int .i64 0, .int .i64 0, .string ⟨#[]⟩, .slice none 0 0, .slice none 0 0⟩)
  generalize (strs o.keys).length = nk at *
  generalize o.kids.length = nd at *
  generalize o.kind = k0 at *
  generalize o.int = i0 at *
  generalize (⟨o.text.toArray⟩ : ByteArray) = T0 at *
  generalize hC : checkO o = C at *
  clear h1 h2 ho hp hp1 hs hC hE hT
  go_enter Tryz.func18, Tryz.ntmps18
  go_wp2_with fail
  refine (HCk.out _ HSt.out.be).mono ?_
  rintro e w1 ⟨rfl, hb1⟩
  have HSt1 := Lib.hid (HSt.out.later hb1)
  clear hb1 HSt HCk
  by_cases hc : C = 0
  case neg =>
    have HR : Hid (R = .error C) := by have := HG.out; rw [if_pos hc] at this; exact this
    have hcb : (C != 0) = true := by simpa using hc
    obtain ⟨z0, z1, z2, z3, z4⟩ := b5_cells (v := ⟨.int .i64 0, .int .i64 0, .string ⟨#[]⟩, .slice none 0 0, .slice none 0 0⟩) HSt1.out.h1
    have zf := fun k => Blk.frozen HSt1.out.h1 k
    have zl := HSt1.out.h1.lt
    go_wp2_with fail
    have hst := HSt1.out.put1 ⟨.int .i64 0, .int .i64 0, .string ⟨#[]⟩, .slice none 0 0, .slice none 0 0⟩
    refine bodyPost_ret (v := .tuple #[.agg #[.int .i64 0, .int .i64 0, .string ⟨#[]⟩, .slice none 0 0, .slice none 0 0], .int .i64 C]) ?_ rfl ?_
    · obtain ⟨r0, r1, r2, r3, r4⟩ := b5_cells (v := ⟨.int .i64 0, .int .i64 0, .string ⟨#[]⟩, .slice none 0 0, .slice none 0 0⟩) hst.h1
      clear hst
      generalize World.setCell _ _ _ = W at *
      simp [results, Tryz.results18, go_sem, r0, r1, r2, r3, r4]
    · refine ⟨hst.be, ?_⟩
      rw [HR.out]
  subst hc
  have hcb : ((0 : Int) != 0) = false := rfl
  have hcb2 : ((0 : Int) == 0) = true := rfl
  cases path with
  | nil =>
    have HR : Hid (R = .error 8) := by have := HG.out; rw [if_neg (by simp), if_pos rfl] at this; exact this
    have hl0 : ([] : List Tk.Src).length = 0 := rfl
    obtain ⟨z0, z1, z2, z3, z4⟩ := b5_cells (v := ⟨.int .i64 0, .int .i64 0, .string ⟨#[]⟩, .slice none 0 0, .slice none 0 0⟩) HSt1.out.h1
    have zf := fun k => Blk.frozen HSt1.out.h1 k
    have zl := HSt1.out.h1.lt
    go_wp2_with fail
    have hst := HSt1.out.put1 ⟨.int .i64 0, .int .i64 0, .string ⟨#[]⟩, .slice none 0 0, .slice none 0 0⟩
    refine bodyPost_ret (v := .tuple #[.agg #[.int .i64 0, .int .i64 0, .string ⟨#[]⟩, .slice none 0 0, .slice none 0 0], .int .i64 8]) ?_ rfl ?_
    · obtain ⟨r0, r1, r2, r3, r4⟩ := b5_cells (v := ⟨.int .i64 0, .int .i64 0, .string ⟨#[]⟩, .slice none 0 0, .slice none 0 0⟩) hst.h1
      clear hst
      generalize World.setCell _ _ _ = W at *
      simp [results, Tryz.results18, go_sem, r0, r1, r2, r3, r4]
    · refine ⟨hst.be, ?_⟩
      rw [HR.out]
  | cons s r =>
    have HRn : Hid (R = RE) := by have := HG.out; rw [if_neg (by simp), if_neg (by simp)] at this; exact this
    have hl1 : (s :: r).length = r.length + 1 := rfl
    have hl2 : ((r.length : Int) + 1 == 0) = false := beq_eq_false_iff_ne.2 (by omega)
    clear HG
    obtain ⟨x0, x1, x2, x3, x4⟩ := b5_cells (v := ⟨.int .i64 k0, .int .i64 i0, .string T0, .slice A nk ck, .slice Bd nd cd⟩) HSt1.out.h0
    dsimp only at x0 x1 x2 x3 x4
    go_wp2_with fail
    refine (HCl.out (by first | rfl | trivial) _ HSt1.out.be).mono ?_
    rintro e w5 ⟨hb5, v8, rfl, hov⟩
    have HSt5 := Lib.hid (HSt1.out.later hb5)
    have HO5 := Lib.hid hov
    have hz45 := hb5.size
    have hz01 := HSt1.out.h1.lt
    obtain ⟨kv8, dv8, us8, rfl, s1, s2, -, -⟩ := hov.objV.open_
    obtain ⟨A8, c8, rfl⟩ := s1.form
    obtain ⟨B8, d8, rfl⟩ := s2.form
    clear hov s1 s2 hb5 x0 x1 x2 x3 x4
    unfold V5.val
    dsimp only
    generalize hz8 : (⟨.int .i64 o.kind, .int .i64 o.int, .string ⟨o.text.toArray⟩, .slice A8 (strs o.keys).length c8, .slice B8 o.kids.length d8⟩ : V5) = u8 at HO5
    have HU8 := Lib.hid hz8
    clear hz8
    generalize (strs o.keys).length = n8 at *
    generalize o.kids.length = m8 at *
    generalize o.kind = k8 at *
    generalize o.int = i8 at *
    generalize (⟨o.text.toArray⟩ : ByteArray) = T8 at *
    have zf := fun k => Blk.frozen HSt5.out.h0 k
    have zl := HSt5.out.h0.lt
    obtain ⟨y0, y1, y2, y3, y4⟩ := b5_cells (v := ⟨.int .i64 k0, .int .i64 i0, .string T0, .slice A nk ck, .slice Bd nd cd⟩) HSt5.out.h0
    go_upto_region 7 with (fail)
    clear zf zl y0 y1 y2 y3 y4
    have hst6 := HSt5.out.put0 ⟨.int .i64 k8, .int .i64 i8, .string T8, .slice A8 n8 c8, .slice B8 m8 d8⟩
    have hf6 := b5_frs' (R := w5.heap.size) (T := fun k => k = w.heap.size) (FrS.refl _ _ w5) rfl ⟨.int .i64 k8, .int .i64 i8, .string T8, .slice A8 n8 c8, .slice B8 m8 d8⟩
    have ho6 : OwnO _ u8 o (fun x => w1.heap.size ≤ x) := HO5.out.keep fun x hx hl => hf6.block x hl (by omega)
    have hs56 := hf6.size
    dsimp only at hst6 ho6 hs56
    have HSt6 := Lib.hid hst6
    have HO6 := Lib.hid ho6
    clear hst6 hf6 ho6 HO5 HSt5 HSt1
    generalize (((((w5.setCell ⟨w.heap.size, 0, none⟩ (.int .i64 k8)).setCell ⟨w.heap.size, 1, none⟩ (.int .i64 i8)).setCell ⟨w.heap.size, 2, none⟩ (.string T8)).setCell ⟨w.heap.size, 3, none⟩ (.slice A8 n8 c8)).setCell ⟨w.heap.size, 4, none⟩ (.slice B8 m8 d8)) = w6 at *
    have hEd : Ed w6 w.heap.size 0 #[.int .i64 k8, .int .i64 i8, .string T8, .slice A8 n8 c8, .slice B8 m8 d8] 25 u8 o (fun x => w1.heap.size ≤ x) := ⟨HSt6.out.h0, fun j u hu => by rw [Nat.zero_add, List.getElem?_toArray]; rw [← HU8.out] at hu; exact hu, HO6.out, fun h => by omega⟩
    have HE6 := Lib.hid (HEdit.out (by first | rfl | trivial) (by simp) w6 u8 (fun x => w1.heap.size ≤ x) w.heap.size #[.int .i64 k8, .int .i64 i8, .string T8, .slice A8 n8 c8, .slice B8 m8 d8] 25 HSt6.out.be hEd)
    clear hEd HO6 HEdit
    go_wp2_with fail
    refine HE6.out.mono ?_
    rintro e w7 ⟨hf7, h2⟩
    have hbl7 : Below w.heap.size w6 w7 := hf7.below HSt6.out.be.size (fun k hk => by omega)
    have HBl7 := Lib.hid (HSt6.out.be.trans hbl7)
    have HB17 := Lib.hid (hf7.blk HSt6.out.h1 HSt6.out.h1.lt (by omega))
    clear hbl7 hf7 HE6
    cases RE with
    | error c =>
      dsimp only at h2
      subst h2
      have hne := HREe.out c rfl
      have HR : Hid (R = .error c) := HRn.out
      have hcb6 : (c != 0) = true := by simpa using hne
      obtain ⟨z0, z1, z2, z3, z4⟩ := b5_cells (v := ⟨.int .i64 0, .int .i64 0, .string ⟨#[]⟩, .slice none 0 0, .slice none 0 0⟩) HB17.out
      have zf := fun k => Blk.frozen HB17.out k
      have zl := HB17.out.lt
      clear hne
      go_wp2_with fail
      have hbz := b5_put (v := ⟨.int .i64 0, .int .i64 0, .string ⟨#[]⟩, .slice none 0 0, .slice none 0 0⟩) HB17.out ⟨.int .i64 0, .int .i64 0, .string ⟨#[]⟩, .slice none 0 0, .slice none 0 0⟩
      have hfz := b5_frs (R := w.heap.size) (T := fun _ => False) (FrS.of_below HBl7.out (Nat.le_refl _)) (show w.heap.size ≤ w.heap.size + 1 by omega) ⟨.int .i64 0, .int .i64 0, .string ⟨#[]⟩, .slice none 0 0, .slice none 0 0⟩
      refine bodyPost_ret (v := .tuple #[.agg #[.int .i64 0, .int .i64 0, .string ⟨#[]⟩, .slice none 0 0, .slice none 0 0], .int .i64 c]) ?_ rfl ?_
      · obtain ⟨r0, r1, r2, r3, r4⟩ := b5_cells hbz
        clear hbz hfz
        generalize World.setCell _ _ _ = W at *
        simp [results, Tryz.results18, go_sem, r0, r1, r2, r3, r4]
      · refine ⟨hfz.below (Nat.le_refl _) (fun _ h => h.elim), ?_⟩
        rw [HR.out]
    | ok p =>
      obtain ⟨rfl, v7, hb7, ho7⟩ := h2
      have HR : Hid (R = .ok p) := HRn.out
      have hb7' : B5 w7 w.heap.size v7 := hb7
      have HSt7 := Lib.hid (⟨HBl7.out, hb7', HB17.out⟩ : St2 w w7 v7 ⟨.int .i64 0, .int .i64 0, .string ⟨#[]⟩, .slice none 0 0, .slice none 0 0⟩)
      have HO7 := Lib.hid (ho7.mono (G := fun x => w.heap.size ≤ x ∧ x ≠ w.heap.size + 1) fun x hx => by have := HSt6.out.be.size; rcases hx with hx | hx | hx <;> first | exact hx.elim | omega)
      clear hb7 hb7' ho7
      have hov := HO7.out
      obtain ⟨kv7, dv7, us7, rfl, s1, s2, -, -⟩ := hov.objV.open_
      obtain ⟨A7, c7, rfl⟩ := s1.form
      obtain ⟨B7, d7, rfl⟩ := s2.form
      clear hov s1 s2
      generalize hz7 : (⟨.int .i64 p.kind, .int .i64 p.int, .string ⟨p.text.toArray⟩, .slice A7 (strs p.keys).length c7, .slice B7 p.kids.length d7⟩ : V5) = u7 at HO7
      have HU7 := Lib.hid hz7
      clear hz7
      generalize (strs p.keys).length = n7 at *
      generalize p.kids.length = m7 at *
      generalize p.kind = k7 at *
      generalize p.int = i7 at *
      generalize (⟨p.text.toArray⟩ : ByteArray) = T7 at *
      obtain ⟨y0, y1, y2, y3, y4⟩ := b5_cells (v := ⟨.int .i64 k7, .int .i64 i7, .string T7, .slice A7 n7 c7, .slice B7 m7 d7⟩) HSt7.out.h0
      dsimp only at y0 y1 y2 y3 y4
      obtain ⟨z0, z1, z2, z3, z4⟩ := b5_cells (v := ⟨.int .i64 0, .int .i64 0, .string ⟨#[]⟩, .slice none 0 0, .slice none 0 0⟩) HSt7.out.h1
      have zf := fun k => Blk.frozen HSt7.out.h1 k
      have zl := HSt7.out.h1.lt
      go_wp2_with fail
      have hst := HSt7.out.put1 ⟨.int .i64 k7, .int .i64 i7, .string T7, .slice A7 n7 c7, .slice B7 m7 d7⟩
      have hfw := b5_frs' (R := w7.heap.size) (T := fun k => k = w.heap.size + 1) (FrS.refl _ _ w7) rfl ⟨.int .i64 k7, .int .i64 i7, .string T7, .slice A7 n7 c7, .slice B7 m7 d7⟩
      refine bodyPost_ret (v := .tuple #[.agg #[.int .i64 k7, .int .i64 i7, .string T7, .slice A7 n7 c7, .slice B7 m7 d7], .int .i64 0]) ?_ rfl ?_
      · obtain ⟨r0, r1, r2, r3, r4⟩ := b5_cells (v := ⟨.int .i64 k7, .int .i64 i7, .string T7, .slice A7 n7 c7, .slice B7 m7 d7⟩) hst.h1
        clear hst hfw
        generalize World.setCell _ _ _ = W at *
        simp [results, Tryz.results18, go_sem, r0, r1, r2, r3, r4]
      · refine ⟨hst.be, ?_⟩
        rw [HR.out]
        have ho := (HO7.out.keep fun x hx hl => hfw.block x hl hx.2).mono (G := fun x => w.heap.size ≤ x) fun x hx => hx.1
        rw [← HU7.out] at ho
        exact ⟨_, rfl, ho⟩
end Go.Proofs.YthbdhijkdldmoaaGreatDoor
