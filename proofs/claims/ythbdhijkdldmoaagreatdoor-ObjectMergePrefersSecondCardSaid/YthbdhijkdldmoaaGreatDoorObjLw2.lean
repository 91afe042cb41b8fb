/- The laws of Set and Drop walked. -/
import Derived.Test.YthbdhijkdldmoaaGreatDoorObjSet
import Derived.Test.YthbdhijkdldmoaaGreatDoorObjLw1
import Derived.Test.YthbdhijkdldmoaaGreatDoorObjLv
namespace Go.Proofs.YthbdhijkdldmoaaGreatDoor
open Go.RowKit Tk Ob
def resR : Except Int Ox → Ox | .error _ => Ox.zero | .ok o => o
def codeR : Except Int Ox → Int | .error c => c | .ok _ => 0
theorem ob_res {r : Except Int Ox} {w : World} {e : Ending} {w' : World} (h : ObPost r w e w') : Below w.heap.size w w' ∧ ∃ u : V5, e = .returned (.tuple #[u.val, .int .i64 (codeR r)]) ∧ ObjV (fun _ => True) w' u (resR r) := by
  refine ⟨h.1, ?_⟩
  have h2 := h.2
  cases r with
  | error c => exact ⟨⟨.int .i64 0, .int .i64 0, .string ⟨#[]⟩, .slice none 0 0, .slice none 0 0⟩, h2, ObjV.leaf _ w' 0 0 []⟩
  | ok o =>
    obtain ⟨v, e, ho⟩ := h2
    exact ⟨v, e, ho.objV.mono fun _ _ _ => trivial⟩
theorem check_err {o : Ox} (h : checkO o ≠ 0) : checkO o ≠ 0 := h
theorem setF_err {o V : Ox} {path : List Tk.Src} {e : Int} (h : setF o path V = .error e) : e ≠ 0 := by
  unfold setF at h
  split at h
  · cases h; assumption
  split at h
  · cases h; assumption
  split at h
  · cases h
  split at h
  · rename_i e2 he2; cases h; exact edit_err (fun o i f s e => setL_err V o i f s e) _ _ _ he2
  · split at h
    · cases h; assumption
    · cases h
/-- What the law says of the plain functions. -/
theorem set_facts {o V p : Ox} {path : List Tk.Src} (h : setF o path V = .ok p) : getF p path = .ok V ∧ ∀ x, setF p path x = setF o path x := by
  unfold setF at h
  split at h
  · cases h
  rename_i h1
  have h1 : checkO o = 0 := by simpa using h1
  split at h
  · cases h
  rename_i h2
  have h2 : checkO V = 0 := by simpa using h2
  split at h
  · rename_i hp
    cases h
    subst hp
    refine ⟨?_, fun x => ?_⟩
    · unfold getF; rw [if_neg (by rw [h2]; simp)]; rfl
    · unfold setF; rw [h1, h2]; simp
  rename_i hp
  split at h
  · cases h
  rename_i q hq
  split at h
  · cases h
  rename_i h3
  cases h
  have h3 : checkO p = 0 := by simpa using h3
  obtain ⟨e1, e2⟩ := set_get V path o p hp (check_ad h1) hq
  refine ⟨?_, fun x => ?_⟩
  · unfold getF; rw [if_neg (by rw [h3]; simp)]; exact e1
  · unfold setF; rw [h1, h3, e2 x]
theorem same_same {P Q : Nat → Prop} {o : Ox} {va vb : V5} {w : World} (ha : ObjV P w va o) (hb : ObjV Q w vb o) : Calls Tryz.prog 13 #[va.val, vb.val] w fun e w' => e = .returned (.bool true) ∧ Below w.heap.size w w' :=
  (same_any _ _ _ va vb _ _ w (Nat.le_refl _) ha hb).mono fun e w' ⟨a, b⟩ => ⟨by rw [a, eqB_true rfl], b⟩
set_option maxRecDepth 100000 in
set_option maxHeartbeats 16000000 in
theorem set_law (P P2 P3 Q : Nat → Prop) (o V X : Ox) (vo vV vX : V5) (pv : Value) (path : List Tk.Src) (w : World) (ho : ObjV P w vo o) (hV : ObjV P2 w vV V) (hX : ObjV P3 w vX X) (hp : Sl w Q pv (strs path)) (hs : ∀ s ∈ path, s.length ≤ 140737488355328) (hT : Tab10 w) (hE : ErrT w) :
    Calls Tryz.prog 6 #[vo.val, vV.val, vX.val, pv] w fun e w' => e = .returned (.bool true) ∧ Below w.heap.size w w' := by
  have HPs : Hid (∀ W, Below w.heap.size w W → Calls Tryz.prog 9 #[] W fun e w' => e = .returned (.bool true) ∧ Below W.heap.size W w') := fun W h => parses_any W (hT.later h) (hE.later h)
  have HSet : Hid (∀ (x y : Ox) (vx vy : V5) (W : World), Below w.heap.size w W → ObjV (fun _ => True) W vx x → ObjV (fun _ => True) W vy y → Calls Tryz.prog 17 #[vx.val, pv, vy.val] W (ObPost (setF x path y) W)) := fun x y vx vy W hW hx hy => set_any _ _ Q x y vx vy pv path W hx hy (hp.later hW) hs (hT.later hW) (hE.later hW)
  have HGet : Hid (∀ (x : Ox) (vx : V5) (W : World), Below w.heap.size w W → ObjV (fun _ => True) W vx x → Calls Tryz.prog 15 #[vx.val, pv] W (ObPost (getF x path) W)) := fun x vx W hW hx => get_any _ Q x vx pv path W hx (hp.later hW) hs (hT.later hW) (hE.later hW)
  have HVo : Hid (∀ W, Below w.heap.size w W → ObjV (fun _ => True) W vo o ∧ ObjV (fun _ => True) W vV V ∧ ObjV (fun _ => True) W vX X) := fun W hW => ⟨(ho.later hW).mono fun _ _ _ => trivial, (hV.later hW).mono fun _ _ _ => trivial, (hX.later hW).mono fun _ _ _ => trivial⟩
  obtain ⟨Pa, pc, rfl⟩ := hp.form
  obtain ⟨kv0, dv0, us0, rfl, s1, s2, -, -⟩ := ho.open_
  obtain ⟨A0, c0, rfl⟩ := s1.form
  obtain ⟨E0, d0, rfl⟩ := s2.form
  clear s1 s2
  obtain ⟨kv1, dv1, us1, rfl, s1, s2, -, -⟩ := hV.open_
  obtain ⟨A1, c1, rfl⟩ := s1.form
  obtain ⟨E1, d1, rfl⟩ := s2.form
  clear s1 s2
  obtain ⟨kv2, dv2, us2, rfl, s1, s2, -, -⟩ := hX.open_
  obtain ⟨A2, c2, rfl⟩ := s1.form
  obtain ⟨E2, d2, rfl⟩ := s2.form
  clear s1 s2
  have hpl : (strs path).length = path.length := by simp [strs]
  rw [hpl] at HSet HGet ⊢
  have HF : Hid (∀ q, setF o path V = .ok q → getF q path = .ok V ∧ ∀ x, setF q path x = setF o path x) := fun q h => set_facts h
  have HFe : Hid (∀ e, setF o path V = .error e → e ≠ 0) := fun e h => setF_err h
  unfold V5.val
  dsimp only
  generalize (strs o.keys).length = n0 at *
  generalize o.kids.length = m0 at *
  generalize o.kind = k0 at *
  generalize o.int = i0 at *
  generalize (⟨o.text.toArray⟩ : ByteArray) = T0 at *
  generalize (strs V.keys).length = n1 at *
  generalize V.kids.length = m1 at *
  generalize V.kind = k1 at *
  generalize V.int = i1 at *
  generalize (⟨V.text.toArray⟩ : ByteArray) = T1 at *
  generalize (strs X.keys).length = n2 at *
  generalize X.kids.length = m2 at *
  generalize X.kind = k2 at *
  generalize X.int = i2 at *
  generalize (⟨X.text.toArray⟩ : ByteArray) = T2 at *
  generalize path.length = np at *
  clear ho hV hX hp hs hT hE hpl
  have HSt := Lib.hid (St3.new w ⟨.int .i64 k0, .int .i64 i0, .string T0, .slice A0 n0 c0, .slice E0 m0 d0⟩ ⟨.int .i64 k1, .int .i64 i1, .string T1, .slice A1 n1 c1, .slice E1 m1 d1⟩ ⟨.int .i64 k2, .int .i64 i2, .string T2, .slice A2 n2 c2, .slice E2 m2 d2⟩)
  go_enter Tryz.func6, Tryz.ntmps6
  go_wp2_with fail
  refine (HPs.out _ HSt.out.be).mono ?_
  rintro e w1 ⟨rfl, hb⟩
  have HSt1 := Lib.hid (HSt.out.later hb)
  clear hb HSt
  obtain ⟨x0, x1, x2, x3, x4⟩ := b5_cells (v := ⟨.int .i64 k0, .int .i64 i0, .string T0, .slice A0 n0 c0, .slice E0 m0 d0⟩) HSt1.out.h0
  obtain ⟨y0, y1, y2, y3, y4⟩ := b5_cells (v := ⟨.int .i64 k1, .int .i64 i1, .string T1, .slice A1 n1 c1, .slice E1 m1 d1⟩) HSt1.out.h1
  dsimp only at x0 x1 x2 x3 x4 y0 y1 y2 y3 y4
  go_wp2_with fail
  refine (HSet.out o V ⟨.int .i64 k0, .int .i64 i0, .string T0, .slice A0 n0 c0, .slice E0 m0 d0⟩ ⟨.int .i64 k1, .int .i64 i1, .string T1, .slice A1 n1 c1, .slice E1 m1 d1⟩ _ HSt1.out.be (HVo.out _ HSt1.out.be).1 (HVo.out _ HSt1.out.be).2.1).mono ?_
  rintro e w2 hp
  clear x0 x1 x2 x3 x4 y0 y1 y2 y3 y4
  cases hr : setF o path V with
  | error c =>
    rw [hr] at hp
    obtain ⟨hb2, u3, rfl, hov⟩ := ob_res hp
    have hne := HFe.out c hr
    have HBl := Lib.hid (HSt1.out.be.trans (hb2.mono HSt1.out.be.size))
    have HOv := Lib.hid hov
    dsimp only [resR, codeR] at hov HOv ⊢
    obtain ⟨kv3, dv3, us3, rfl, s1, s2, -, -⟩ := hov.open_
    obtain ⟨A3, c3, rfl⟩ := s1.form
    obtain ⟨E3, d3, rfl⟩ := s2.form
    clear s1 s2
    unfold V5.val
    dsimp only [Ox.zero, Ox.kind, Ox.int, Ox.text, Ox.keys, Ox.kids] at HOv ⊢
    have hcb : (c != 0) = true := by simpa using hne
    clear hov hp hr hb2 hne
    go_wp2_with fail
    refine (same_same (HOv.out.alloc _) (ObjV.leaf (fun _ => True) _ 0 0 [])).mono ?_
    rintro e w3 ⟨rfl, hb3⟩
    have HEnd := Lib.hid ((HBl.out.alloc HBl.out.size _).trans (hb3.mono (by have := HBl.out.size; simp; omega)))
    clear hb3
    go_wp2_with fail
    go_ret
    exact ⟨rfl, HEnd.out⟩
  | ok q =>
    rw [hr] at hp
    obtain ⟨hb2, u3, rfl, hov⟩ := ob_res hp
    obtain ⟨hget, hsx⟩ := HF.out q hr
    have hst2 := HSt1.out.later hb2
    dsimp only [resR, codeR] at hov ⊢
    have HOv := Lib.hid hov
    obtain ⟨kv3, dv3, us3, rfl, s1, s2, -, -⟩ := hov.open_
    obtain ⟨A3, c3, rfl⟩ := s1.form
    obtain ⟨E3, d3, rfl⟩ := s2.form
    clear s1 s2
    unfold V5.val
    dsimp only
    generalize (strs q.keys).length = n3 at *
    generalize q.kids.length = m3 at *
    generalize q.kind = k3 at *
    generalize q.int = i3 at *
    generalize (⟨q.text.toArray⟩ : ByteArray) = T3 at *
    have HSt2 : Hid (St3 w (w2.alloc (.cells #[.int .i64 k3, .int .i64 i3, .string T3, .slice A3 n3 c3, .slice E3 m3 d3] 25)) ⟨.int .i64 k0, .int .i64 i0, .string T0, .slice A0 n0 c0, .slice E0 m0 d0⟩ ⟨.int .i64 k1, .int .i64 i1, .string T1, .slice A1 n1 c1, .slice E1 m1 d1⟩ ⟨.int .i64 k2, .int .i64 i2, .string T2, .slice A2 n2 c2, .slice E2 m2 d2⟩) := hst2.later ((Below.refl _ _).alloc (Nat.le_refl _) _)
    have HB3 : Hid (B5 (w2.alloc (.cells #[.int .i64 k3, .int .i64 i3, .string T3, .slice A3 n3 c3, .slice E3 m3 d3] 25)) w2.heap.size ⟨.int .i64 k3, .int .i64 i3, .string T3, .slice A3 n3 c3, .slice E3 m3 d3⟩) := Blk.new w2 _ _
    have HV3 : Hid (ObjV (fun _ => True) (w2.alloc (.cells #[.int .i64 k3, .int .i64 i3, .string T3, .slice A3 n3 c3, .slice E3 m3 d3] 25)) ⟨.int .i64 k3, .int .i64 i3, .string T3, .slice A3 n3 c3, .slice E3 m3 d3⟩ q) := HOv.out.alloc _
    clear hp hb2 hst2 hov HOv HF HFe HSt1
    go_wp2_with fail
    refine (HGet.out q ⟨.int .i64 k3, .int .i64 i3, .string T3, .slice A3 n3 c3, .slice E3 m3 d3⟩ _ HSt2.out.be HV3.out).mono ?_
    rw [hget]
    generalize w2.alloc (.cells #[.int .i64 k3, .int .i64 i3, .string T3, .slice A3 n3 c3, .slice E3 m3 d3] 25) = x2 at *
    rintro e w4 hp
    obtain ⟨hb4, u4, rfl, hov⟩ := ob_res hp
    have hst4 := HSt2.out.later hb4
    have hb34 := HB3.out.below hb4 HB3.out.lt
    have hv34 := HV3.out.later hb4
    dsimp only [resR, codeR] at hov ⊢
    have HOv := Lib.hid hov
    obtain ⟨kv4, dv4, us4, rfl, s1, s2, -, -⟩ := hov.open_
    obtain ⟨A4, c4, rfl⟩ := s1.form
    obtain ⟨E4, d4, rfl⟩ := s2.form
    clear s1 s2
    unfold V5.val
    dsimp only
    generalize (strs V.keys).length = n4 at *
    generalize V.kids.length = m4 at *
    generalize V.kind = k4 at *
    generalize V.int = i4 at *
    generalize (⟨V.text.toArray⟩ : ByteArray) = T4 at *
    have hal := (Below.refl w4.heap.size w4).alloc (Nat.le_refl _) (.cells #[.int .i64 k4, .int .i64 i4, .string T4, .slice A4 n4 c4, .slice E4 m4 d4] 25)
    have HSt4 : Hid (St3 w (w4.alloc (.cells #[.int .i64 k4, .int .i64 i4, .string T4, .slice A4 n4 c4, .slice E4 m4 d4] 25)) ⟨.int .i64 k0, .int .i64 i0, .string T0, .slice A0 n0 c0, .slice E0 m0 d0⟩ ⟨.int .i64 k1, .int .i64 i1, .string T1, .slice A1 n1 c1, .slice E1 m1 d1⟩ ⟨.int .i64 k2, .int .i64 i2, .string T2, .slice A2 n2 c2, .slice E2 m2 d2⟩) := hst4.later hal
    have HB3' : Hid (B5 (w4.alloc (.cells #[.int .i64 k4, .int .i64 i4, .string T4, .slice A4 n4 c4, .slice E4 m4 d4] 25)) w2.heap.size ⟨.int .i64 k3, .int .i64 i3, .string T3, .slice A3 n3 c3, .slice E3 m3 d3⟩) := Blk.below hb34 hal hb34.lt
    have HV3' : Hid (ObjV (fun _ => True) (w4.alloc (.cells #[.int .i64 k4, .int .i64 i4, .string T4, .slice A4 n4 c4, .slice E4 m4 d4] 25)) ⟨.int .i64 k3, .int .i64 i3, .string T3, .slice A3 n3 c3, .slice E3 m3 d3⟩ q) := hv34.alloc _
    have HB4 : Hid (B5 (w4.alloc (.cells #[.int .i64 k4, .int .i64 i4, .string T4, .slice A4 n4 c4, .slice E4 m4 d4] 25)) w4.heap.size ⟨.int .i64 k4, .int .i64 i4, .string T4, .slice A4 n4 c4, .slice E4 m4 d4⟩) := Blk.new w4 _ _
    have HV4 : Hid (ObjV (fun _ => True) (w4.alloc (.cells #[.int .i64 k4, .int .i64 i4, .string T4, .slice A4 n4 c4, .slice E4 m4 d4] 25)) ⟨.int .i64 k4, .int .i64 i4, .string T4, .slice A4 n4 c4, .slice E4 m4 d4⟩ V) := HOv.out.alloc _
    have z1 := hb34.lt
    have z2 := hst4.h2.lt
    obtain ⟨x0, x1, x2, x3, x4⟩ := b5_cells (v := ⟨.int .i64 k3, .int .i64 i3, .string T3, .slice A3 n3 c3, .slice E3 m3 d3⟩) hb34
    obtain ⟨y0, y1, y2, y3, y4⟩ := b5_cells (v := ⟨.int .i64 k2, .int .i64 i2, .string T2, .slice A2 n2 c2, .slice E2 m2 d2⟩) hst4.h2
    dsimp only at x0 x1 x2 x3 x4 y0 y1 y2 y3 y4
    clear hp hb4 hst4 hb34 hv34 hov HOv hget HB3 HV3 HSt2 hal
    go_wp2_with fail
    have hset5 := HSet.out q X ⟨.int .i64 k3, .int .i64 i3, .string T3, .slice A3 n3 c3, .slice E3 m3 d3⟩ ⟨.int .i64 k2, .int .i64 i2, .string T2, .slice A2 n2 c2, .slice E2 m2 d2⟩ _ HSt4.out.be HV3'.out (HVo.out _ HSt4.out.be).2.2
    rw [hsx] at hset5
    have HSet5 := Lib.hid hset5
    clear hset5 x0 x1 x2 x3 x4 y0 y1 y2 y3 y4 z1 z2
    refine HSet5.out.mono ?_
    clear HSet5
    generalize w4.alloc (.cells #[.int .i64 k4, .int .i64 i4, .string T4, .slice A4 n4 c4, .slice E4 m4 d4] 25) = x4 at *
    generalize hR : setF o path X = R at *
    clear hsx hr
    rintro e w5 hp
    obtain ⟨hb5, u5, rfl, hov⟩ := ob_res hp
    have hst5 := HSt4.out.later hb5
    have hb35 := HB3'.out.below hb5 HB3'.out.lt
    have hb45 := HB4.out.below hb5 HB4.out.lt
    have hv45 := HV4.out.later hb5
    have HOv := Lib.hid hov
    have hx45 : w4.heap.size < x4.heap.size := HB4.out.lt
    have hx55 := hb5.size
    obtain ⟨kv5, dv5, us5, rfl, s1, s2, -, -⟩ := hov.open_
    obtain ⟨A5, c5, rfl⟩ := s1.form
    obtain ⟨E5, d5, rfl⟩ := s2.form
    clear s1 s2
    unfold V5.val
    dsimp only
    generalize (strs (resR R).keys).length = n5 at *
    generalize (resR R).kids.length = m5 at *
    generalize (resR R).kind = k5 at *
    generalize (resR R).int = i5 at *
    generalize (⟨(resR R).text.toArray⟩ : ByteArray) = T5 at *
    have hal := (Below.refl w5.heap.size w5).alloc (Nat.le_refl _) (.cells #[.int .i64 k5, .int .i64 i5, .string T5, .slice A5 n5 c5, .slice E5 m5 d5] 25)
    have HSt5 : Hid (St3 w (w5.alloc (.cells #[.int .i64 k5, .int .i64 i5, .string T5, .slice A5 n5 c5, .slice E5 m5 d5] 25)) ⟨.int .i64 k0, .int .i64 i0, .string T0, .slice A0 n0 c0, .slice E0 m0 d0⟩ ⟨.int .i64 k1, .int .i64 i1, .string T1, .slice A1 n1 c1, .slice E1 m1 d1⟩ ⟨.int .i64 k2, .int .i64 i2, .string T2, .slice A2 n2 c2, .slice E2 m2 d2⟩) := hst5.later hal
    have HB4' : Hid (B5 (w5.alloc (.cells #[.int .i64 k5, .int .i64 i5, .string T5, .slice A5 n5 c5, .slice E5 m5 d5] 25)) w4.heap.size ⟨.int .i64 k4, .int .i64 i4, .string T4, .slice A4 n4 c4, .slice E4 m4 d4⟩) := Blk.below hb45 hal hb45.lt
    have HV4' : Hid (ObjV (fun _ => True) (w5.alloc (.cells #[.int .i64 k5, .int .i64 i5, .string T5, .slice A5 n5 c5, .slice E5 m5 d5] 25)) ⟨.int .i64 k4, .int .i64 i4, .string T4, .slice A4 n4 c4, .slice E4 m4 d4⟩ V) := hv45.alloc _
    have HB5 : Hid (B5 (w5.alloc (.cells #[.int .i64 k5, .int .i64 i5, .string T5, .slice A5 n5 c5, .slice E5 m5 d5] 25)) w5.heap.size ⟨.int .i64 k5, .int .i64 i5, .string T5, .slice A5 n5 c5, .slice E5 m5 d5⟩) := Blk.new w5 _ _
    have HV5 : Hid (ObjV (fun _ => True) (w5.alloc (.cells #[.int .i64 k5, .int .i64 i5, .string T5, .slice A5 n5 c5, .slice E5 m5 d5] 25)) ⟨.int .i64 k5, .int .i64 i5, .string T5, .slice A5 n5 c5, .slice E5 m5 d5⟩ (resR R)) := HOv.out.alloc _
    have z1 := hst5.h0.lt
    have z2 := hst5.h2.lt
    obtain ⟨x0, x1, x2, x3, x4⟩ := b5_cells (v := ⟨.int .i64 k0, .int .i64 i0, .string T0, .slice A0 n0 c0, .slice E0 m0 d0⟩) hst5.h0
    obtain ⟨y0, y1, y2, y3, y4⟩ := b5_cells (v := ⟨.int .i64 k2, .int .i64 i2, .string T2, .slice A2 n2 c2, .slice E2 m2 d2⟩) hst5.h2
    dsimp only at x0 x1 x2 x3 x4 y0 y1 y2 y3 y4
    clear hp hb5 hst5 hb35 hb45 hv45 hov HOv HB3' HB4 HV4 HSt4 hal HV3'
    go_wp2_with fail
    have hset6 := HSet.out o X ⟨.int .i64 k0, .int .i64 i0, .string T0, .slice A0 n0 c0, .slice E0 m0 d0⟩ ⟨.int .i64 k2, .int .i64 i2, .string T2, .slice A2 n2 c2, .slice E2 m2 d2⟩ _ HSt5.out.be (HVo.out _ HSt5.out.be).1 (HVo.out _ HSt5.out.be).2.2
    rw [hR] at hset6
    have HSet6 := Lib.hid hset6
    clear hset6 x0 x1 x2 x3 x4 y0 y1 y2 y3 y4 z1 z2
    refine HSet6.out.mono ?_
    clear HSet6
    generalize w5.alloc (.cells #[.int .i64 k5, .int .i64 i5, .string T5, .slice A5 n5 c5, .slice E5 m5 d5] 25) = x5 at *
    rintro e w6 hp
    obtain ⟨hb6, u6, rfl, hov⟩ := ob_res hp
    have hst6 := HSt5.out.later hb6
    have hb46 := HB4'.out.below hb6 HB4'.out.lt
    have hb56 := HB5.out.below hb6 HB5.out.lt
    have HOv := Lib.hid hov
    have hx56 : w5.heap.size < x5.heap.size := HB5.out.lt
    have hx66 := hb6.size
    obtain ⟨kv6, dv6, us6, rfl, s1, s2, -, -⟩ := hov.open_
    obtain ⟨A6, c6, rfl⟩ := s1.form
    obtain ⟨E6, d6, rfl⟩ := s2.form
    clear s1 s2
    unfold V5.val
    dsimp only
    generalize (strs (resR R).keys).length = n6 at *
    generalize (resR R).kids.length = m6 at *
    generalize (resR R).kind = k6 at *
    generalize (resR R).int = i6 at *
    generalize (⟨(resR R).text.toArray⟩ : ByteArray) = T6 at *
    have hal := (Below.refl w6.heap.size w6).alloc (Nat.le_refl _) (.cells #[.int .i64 k6, .int .i64 i6, .string T6, .slice A6 n6 c6, .slice E6 m6 d6] 25)
    have hst6' := hst6.later hal
    have HBe : Hid (Below w.heap.size w (w6.alloc (.cells #[.int .i64 k6, .int .i64 i6, .string T6, .slice A6 n6 c6, .slice E6 m6 d6] 25))) := hst6'.be
    have hV4 := HV4'.out.later hb6
    have hV5 := HV5.out.later hb6
    have HSa : Hid (Calls Tryz.prog 13 #[.agg #[.int .i64 k4, .int .i64 i4, .string T4, .slice A4 n4 c4, .slice E4 m4 d4], .agg #[.int .i64 k1, .int .i64 i1, .string T1, .slice A1 n1 c1, .slice E1 m1 d1]] (w6.alloc (.cells #[.int .i64 k6, .int .i64 i6, .string T6, .slice A6 n6 c6, .slice E6 m6 d6] 25)) fun e w' => e = .returned (.bool true) ∧ Below (w6.alloc (.cells #[.int .i64 k6, .int .i64 i6, .string T6, .slice A6 n6 c6, .slice E6 m6 d6] 25)).heap.size (w6.alloc (.cells #[.int .i64 k6, .int .i64 i6, .string T6, .slice A6 n6 c6, .slice E6 m6 d6] 25)) w') := same_same (va := ⟨.int .i64 k4, .int .i64 i4, .string T4, .slice A4 n4 c4, .slice E4 m4 d4⟩) (vb := ⟨.int .i64 k1, .int .i64 i1, .string T1, .slice A1 n1 c1, .slice E1 m1 d1⟩) (hV4.alloc _) (HVo.out _ hst6'.be).2.1
    have HSb : Hid (∀ W, Below (w6.alloc (.cells #[.int .i64 k6, .int .i64 i6, .string T6, .slice A6 n6 c6, .slice E6 m6 d6] 25)).heap.size (w6.alloc (.cells #[.int .i64 k6, .int .i64 i6, .string T6, .slice A6 n6 c6, .slice E6 m6 d6] 25)) W → Calls Tryz.prog 13 #[.agg #[.int .i64 k5, .int .i64 i5, .string T5, .slice A5 n5 c5, .slice E5 m5 d5], .agg #[.int .i64 k6, .int .i64 i6, .string T6, .slice A6 n6 c6, .slice E6 m6 d6]] W fun e w' => e = .returned (.bool true) ∧ Below W.heap.size W w') := fun W hW => same_same (va := ⟨.int .i64 k5, .int .i64 i5, .string T5, .slice A5 n5 c5, .slice E5 m5 d5⟩) (vb := ⟨.int .i64 k6, .int .i64 i6, .string T6, .slice A6 n6 c6, .slice E6 m6 d6⟩) ((hV5.alloc _).later hW) ((HOv.out.alloc _).later hW)
    have z1 := hb46.lt
    have z2 := hst6.h1.lt
    obtain ⟨x0, x1, x2, x3, x4⟩ := b5_cells (v := ⟨.int .i64 k4, .int .i64 i4, .string T4, .slice A4 n4 c4, .slice E4 m4 d4⟩) hb46
    obtain ⟨y0, y1, y2, y3, y4⟩ := b5_cells (v := ⟨.int .i64 k1, .int .i64 i1, .string T1, .slice A1 n1 c1, .slice E1 m1 d1⟩) hst6.h1
    dsimp only at x0 x1 x2 x3 x4 y0 y1 y2 y3 y4
    have HB56 : Hid (∀ W, Below (w6.alloc (.cells #[.int .i64 k6, .int .i64 i6, .string T6, .slice A6 n6 c6, .slice E6 m6 d6] 25)).heap.size (w6.alloc (.cells #[.int .i64 k6, .int .i64 i6, .string T6, .slice A6 n6 c6, .slice E6 m6 d6] 25)) W → B5 W w5.heap.size ⟨.int .i64 k5, .int .i64 i5, .string T5, .slice A5 n5 c5, .slice E5 m5 d5⟩ ∧ B5 W w6.heap.size ⟨.int .i64 k6, .int .i64 i6, .string T6, .slice A6 n6 c6, .slice E6 m6 d6⟩) := fun W hW => ⟨(Blk.alloc hb56 _).below hW (Blk.alloc hb56 _).lt, (Blk.new w6 _ _).below hW (by simp)⟩
    clear hp hb6 hst6 hb46 hb56 hov HOv HV4' HB4' HB5 HV5 HSt5 hal hst6' hV4 hV5
    go_wp2_with fail
    refine HSa.out.mono ?_
    rintro e w7 ⟨rfl, hb7⟩
    obtain ⟨hp5, hp6⟩ := HB56.out w7 hb7
    have HEb := Lib.hid (HSb.out w7 hb7)
    have HBe7 := Lib.hid (HBe.out.trans (hb7.mono HBe.out.size))
    clear x0 x1 x2 x3 x4 y0 y1 y2 y3 y4 z1 z2 hb7
    obtain ⟨x0, x1, x2, x3, x4⟩ := b5_cells (v := ⟨.int .i64 k5, .int .i64 i5, .string T5, .slice A5 n5 c5, .slice E5 m5 d5⟩) hp5
    obtain ⟨y0, y1, y2, y3, y4⟩ := b5_cells (v := ⟨.int .i64 k6, .int .i64 i6, .string T6, .slice A6 n6 c6, .slice E6 m6 d6⟩) hp6
    dsimp only at x0 x1 x2 x3 x4 y0 y1 y2 y3 y4
    clear hp5 hp6
    go_wp2_with fail
    refine HEb.out.mono ?_
    rintro e w8 ⟨rfl, hb8⟩
    have HBe8 := Lib.hid (HBe7.out.trans (hb8.mono HBe7.out.size))
    clear hb8 x0 x1 x2 x3 x4 y0 y1 y2 y3 y4
    go_wp2_with fail
    go_ret
    exact ⟨rfl, HBe8.out⟩
theorem drop_facts {o V p : Ox} {path : List Tk.Src} (hg : getF o path = .error 8) (h : setF o path V = .ok p) (h0 : checkO o = 0) : dropF p path = .ok o ∧ dropF o path = .error 8 := by
  unfold setF at h
  rw [if_neg (by rw [h0]; simp)] at h
  split at h
  · cases h
  split at h
  · rename_i hp
    subst hp
    unfold getF at hg
    rw [if_neg (by rw [h0]; simp)] at hg
    cases hg
  rename_i hp
  split at h
  · cases h
  rename_i q hq
  split at h
  · cases h
  rename_i h3
  cases h
  have h3 : checkO p = 0 := by simpa using h3
  unfold getF at hg
  rw [if_neg (by rw [h0]; simp)] at hg
  obtain ⟨e1, e2⟩ := drop_set V path o p (check_ad h0) hg hq
  refine ⟨?_, ?_⟩
  · unfold dropF; rw [if_neg (by rw [h3]; simp), if_neg hp]; exact e1
  · unfold dropF; rw [if_neg (by rw [h0]; simp), if_neg hp]; exact e2
theorem set_check {o V p : Ox} {path : List Tk.Src} (h : setF o path V = .ok p) : checkO o = 0 := by
  unfold setF at h
  split at h
  · cases h
  · rename_i h1; simpa using h1
theorem code_eight {r : Except Int Ox} (h : codeR r = 8) : r = .error 8 := by
  cases r with
  | error c => exact congrArg _ h
  | ok o => cases h
set_option maxRecDepth 100000 in
set_option maxHeartbeats 16000000 in
theorem drop_law (P P2 Q : Nat → Prop) (o V : Ox) (vo vV : V5) (pv : Value) (path : List Tk.Src) (w : World) (ho : ObjV P w vo o) (hV : ObjV P2 w vV V) (hp : Sl w Q pv (strs path)) (hs : ∀ s ∈ path, s.length ≤ 140737488355328) (hT : Tab10 w) (hE : ErrT w) :
    Calls Tryz.prog 8 #[vo.val, vV.val, pv] w fun e w' => e = .returned (.bool true) ∧ Below w.heap.size w w' := by
  have HPs : Hid (∀ W, Below w.heap.size w W → Calls Tryz.prog 9 #[] W fun e w' => e = .returned (.bool true) ∧ Below W.heap.size W w') := fun W h => parses_any W (hT.later h) (hE.later h)
  have HSet : Hid (∀ (x y : Ox) (vx vy : V5) (W : World), Below w.heap.size w W → ObjV (fun _ => True) W vx x → ObjV (fun _ => True) W vy y → Calls Tryz.prog 17 #[vx.val, pv, vy.val] W (ObPost (setF x path y) W)) := fun x y vx vy W hW hx hy => set_any _ _ Q x y vx vy pv path W hx hy (hp.later hW) hs (hT.later hW) (hE.later hW)
  have HGet : Hid (∀ (x : Ox) (vx : V5) (W : World), Below w.heap.size w W → ObjV (fun _ => True) W vx x → Calls Tryz.prog 15 #[vx.val, pv] W (ObPost (getF x path) W)) := fun x vx W hW hx => get_any _ Q x vx pv path W hx (hp.later hW) hs (hT.later hW) (hE.later hW)
  have HDrp : Hid (∀ (x : Ox) (vx : V5) (W : World), Below w.heap.size w W → ObjV (fun _ => True) W vx x → Calls Tryz.prog 18 #[vx.val, pv] W (ObPost (dropF x path) W)) := fun x vx W hW hx => drop_any _ Q x vx pv path W hx (hp.later hW) hs (hT.later hW) (hE.later hW)
  have HVo : Hid (∀ W, Below w.heap.size w W → ObjV (fun _ => True) W vo o ∧ ObjV (fun _ => True) W vV V) := fun W hW => ⟨(ho.later hW).mono fun _ _ _ => trivial, (hV.later hW).mono fun _ _ _ => trivial⟩
  obtain ⟨Pa, pc, rfl⟩ := hp.form
  obtain ⟨kv0, dv0, us0, rfl, s1, s2, -, -⟩ := ho.open_
  obtain ⟨A0, c0, rfl⟩ := s1.form
  obtain ⟨E0, d0, rfl⟩ := s2.form
  clear s1 s2
  obtain ⟨kv1, dv1, us1, rfl, s1, s2, -, -⟩ := hV.open_
  obtain ⟨A1, c1, rfl⟩ := s1.form
  obtain ⟨E1, d1, rfl⟩ := s2.form
  clear s1 s2
  have hpl : (strs path).length = path.length := by simp [strs]
  rw [hpl] at HSet HGet HDrp ⊢
  have HF : Hid (∀ q, getF o path = .error 8 → setF o path V = .ok q → dropF q path = .ok o ∧ dropF o path = .error 8) := fun q hg h => drop_facts hg h (set_check h)
  have HFe : Hid (∀ e, setF o path V = .error e → e ≠ 0) := fun e h => setF_err h
  unfold V5.val
  dsimp only
  generalize (strs o.keys).length = n0 at *
  generalize o.kids.length = m0 at *
  generalize o.kind = k0 at *
  generalize o.int = i0 at *
  generalize (⟨o.text.toArray⟩ : ByteArray) = T0 at *
  generalize (strs V.keys).length = n1 at *
  generalize V.kids.length = m1 at *
  generalize V.kind = k1 at *
  generalize V.int = i1 at *
  generalize (⟨V.text.toArray⟩ : ByteArray) = T1 at *
  generalize path.length = np at *
  clear ho hV hp hs hT hE hpl
  have HSt := Lib.hid (St2.new w ⟨.int .i64 k0, .int .i64 i0, .string T0, .slice A0 n0 c0, .slice E0 m0 d0⟩ ⟨.int .i64 k1, .int .i64 i1, .string T1, .slice A1 n1 c1, .slice E1 m1 d1⟩)
  go_enter Tryz.func8, Tryz.ntmps8
  go_wp2_with fail
  refine (HPs.out _ HSt.out.be).mono ?_
  rintro e w1 ⟨rfl, hb⟩
  have HSt1 := Lib.hid (HSt.out.later hb)
  clear hb HSt
  obtain ⟨x0, x1, x2, x3, x4⟩ := b5_cells (v := ⟨.int .i64 k0, .int .i64 i0, .string T0, .slice A0 n0 c0, .slice E0 m0 d0⟩) HSt1.out.h0
  dsimp only at x0 x1 x2 x3 x4
  go_wp2_with fail
  refine (HGet.out o ⟨.int .i64 k0, .int .i64 i0, .string T0, .slice A0 n0 c0, .slice E0 m0 d0⟩ _ HSt1.out.be (HVo.out _ HSt1.out.be).1).mono ?_
  clear x0 x1 x2 x3 x4
  rintro e w2 hp
  obtain ⟨hb2, u2, rfl, hov⟩ := ob_res hp
  have HOv := Lib.hid hov
  have hst2 := HSt1.out.later hb2
  obtain ⟨kv2, dv2, us2, rfl, s1, s2, -, -⟩ := hov.open_
  obtain ⟨A2, c2, rfl⟩ := s1.form
  obtain ⟨E2, d2, rfl⟩ := s2.form
  clear s1 s2
  unfold V5.val
  dsimp only
  generalize hgr : getF o path = R at *
  generalize (strs (resR R).keys).length = n2 at *
  generalize (resR R).kids.length = m2 at *
  generalize (resR R).kind = k2 at *
  generalize (resR R).int = i2 at *
  generalize (⟨(resR R).text.toArray⟩ : ByteArray) = T2 at *
  have HSt2 : Hid (St2 w (w2.alloc (.cells #[.int .i64 k2, .int .i64 i2, .string T2, .slice A2 n2 c2, .slice E2 m2 d2] 25)) ⟨.int .i64 k0, .int .i64 i0, .string T0, .slice A0 n0 c0, .slice E0 m0 d0⟩ ⟨.int .i64 k1, .int .i64 i1, .string T1, .slice A1 n1 c1, .slice E1 m1 d1⟩) := hst2.later ((Below.refl _ _).alloc (Nat.le_refl _) _)
  have z0 := hst2.h0.lt
  have z1 := hst2.h1.lt
  obtain ⟨x0, x1, x2, x3, x4⟩ := b5_cells (v := ⟨.int .i64 k0, .int .i64 i0, .string T0, .slice A0 n0 c0, .slice E0 m0 d0⟩) hst2.h0
  obtain ⟨y0, y1, y2, y3, y4⟩ := b5_cells (v := ⟨.int .i64 k1, .int .i64 i1, .string T1, .slice A1 n1 c1, .slice E1 m1 d1⟩) hst2.h1
  dsimp only at x0 x1 x2 x3 x4 y0 y1 y2 y3 y4
  clear hp hb2 hov HOv hst2 HSt1
  by_cases h8 : codeR R = 8
  case neg =>
    have hcb : (codeR R != 8) = true := by simpa using h8
    clear hgr h8
    generalize codeR R = c at *
    go_wp2_with fail
    go_ret
    exact ⟨rfl, HSt2.out.be⟩
  have h8' := code_eight h8
  subst h8'
  dsimp only [codeR]
  have hcb : ((8 : Int) != 8) = false := rfl
  clear h8
  go_wp2_with fail
  refine (HSet.out o V ⟨.int .i64 k0, .int .i64 i0, .string T0, .slice A0 n0 c0, .slice E0 m0 d0⟩ ⟨.int .i64 k1, .int .i64 i1, .string T1, .slice A1 n1 c1, .slice E1 m1 d1⟩ _ HSt2.out.be (HVo.out _ HSt2.out.be).1 (HVo.out _ HSt2.out.be).2).mono ?_
  clear x0 x1 x2 x3 x4 y0 y1 y2 y3 y4 z0 z1
  generalize w2.alloc (.cells #[.int .i64 k2, .int .i64 i2, .string T2, .slice A2 n2 c2, .slice E2 m2 d2] 25) = x2 at *
  rintro e w3 hp
  obtain ⟨hb3, u3, rfl, hov⟩ := ob_res hp
  have HOv := Lib.hid hov
  have hst3 := HSt2.out.later hb3
  obtain ⟨kv3, dv3, us3, rfl, s1, s2, -, -⟩ := hov.open_
  obtain ⟨A3, c3, rfl⟩ := s1.form
  obtain ⟨E3, d3, rfl⟩ := s2.form
  clear s1 s2
  unfold V5.val
  dsimp only
  generalize hsr : setF o path V = R at *
  generalize (strs (resR R).keys).length = n3 at *
  generalize (resR R).kids.length = m3 at *
  generalize (resR R).kind = k3 at *
  generalize (resR R).int = i3 at *
  generalize (⟨(resR R).text.toArray⟩ : ByteArray) = T3 at *
  have HSt3 : Hid (St2 w (w3.alloc (.cells #[.int .i64 k3, .int .i64 i3, .string T3, .slice A3 n3 c3, .slice E3 m3 d3] 25)) ⟨.int .i64 k0, .int .i64 i0, .string T0, .slice A0 n0 c0, .slice E0 m0 d0⟩ ⟨.int .i64 k1, .int .i64 i1, .string T1, .slice A1 n1 c1, .slice E1 m1 d1⟩) := hst3.later ((Below.refl _ _).alloc (Nat.le_refl _) _)
  have HV3 : Hid (ObjV (fun _ => True) (w3.alloc (.cells #[.int .i64 k3, .int .i64 i3, .string T3, .slice A3 n3 c3, .slice E3 m3 d3] 25)) ⟨.int .i64 k3, .int .i64 i3, .string T3, .slice A3 n3 c3, .slice E3 m3 d3⟩ (resR R)) := HOv.out.alloc _
  clear hp hb3 hov HOv hst3 HSt2
  cases R with
  | error c =>
    have hcb3 : (c != 0) = true := by simpa using HFe.out c rfl
    dsimp only [codeR]
    clear hgr hsr HFe HF
    go_wp2_with fail
    go_ret
    exact ⟨rfl, HSt3.out.be⟩
  | ok q =>
    obtain ⟨hd1, hd2⟩ := HF.out q (by first | trivial | rfl) rfl
    have hcb3 : ((0 : Int) != 0) = false := rfl
    dsimp only [codeR, resR] at HV3 ⊢
    have hdr := HDrp.out q ⟨.int .i64 k3, .int .i64 i3, .string T3, .slice A3 n3 c3, .slice E3 m3 d3⟩ _ HSt3.out.be HV3.out
    rw [hd1] at hdr
    have HDr := Lib.hid hdr
    clear hgr hsr HFe HF hd1 hdr
    go_wp2_with fail
    refine HDr.out.mono ?_
    clear HDr
    generalize w3.alloc (.cells #[.int .i64 k3, .int .i64 i3, .string T3, .slice A3 n3 c3, .slice E3 m3 d3] 25) = x3 at *
    rintro e w4 hp
    obtain ⟨hb4, u4, rfl, hov⟩ := ob_res hp
    have HOv := Lib.hid hov
    have hst4 := HSt3.out.later hb4
    dsimp only [codeR, resR] at hov HOv ⊢
    obtain ⟨kv4, dv4, us4, rfl, s1, s2, -, -⟩ := hov.open_
    obtain ⟨A4, c4, rfl⟩ := s1.form
    obtain ⟨E4, d4, rfl⟩ := s2.form
    clear s1 s2
    unfold V5.val
    dsimp only
    generalize (strs o.keys).length = n4 at *
    generalize o.kids.length = m4 at *
    generalize o.kind = k4 at *
    generalize o.int = i4 at *
    generalize (⟨o.text.toArray⟩ : ByteArray) = T4 at *
    have HSt4 : Hid (St2 w (w4.alloc (.cells #[.int .i64 k4, .int .i64 i4, .string T4, .slice A4 n4 c4, .slice E4 m4 d4] 25)) ⟨.int .i64 k0, .int .i64 i0, .string T0, .slice A0 n0 c0, .slice E0 m0 d0⟩ ⟨.int .i64 k1, .int .i64 i1, .string T1, .slice A1 n1 c1, .slice E1 m1 d1⟩) := hst4.later ((Below.refl _ _).alloc (Nat.le_refl _) _)
    have HV4 : Hid (ObjV (fun _ => True) (w4.alloc (.cells #[.int .i64 k4, .int .i64 i4, .string T4, .slice A4 n4 c4, .slice E4 m4 d4] 25)) ⟨.int .i64 k4, .int .i64 i4, .string T4, .slice A4 n4 c4, .slice E4 m4 d4⟩ o) := HOv.out.alloc _
    have HB4 : Hid (B5 (w4.alloc (.cells #[.int .i64 k4, .int .i64 i4, .string T4, .slice A4 n4 c4, .slice E4 m4 d4] 25)) w4.heap.size ⟨.int .i64 k4, .int .i64 i4, .string T4, .slice A4 n4 c4, .slice E4 m4 d4⟩) := Blk.new w4 _ _
    have hdr := HDrp.out o ⟨.int .i64 k4, .int .i64 i4, .string T4, .slice A4 n4 c4, .slice E4 m4 d4⟩ _ HSt4.out.be HV4.out
    rw [hd2] at hdr
    have HDr := Lib.hid hdr
    clear hp hb4 hov HOv hst4 HSt3 HV3 hd2 hdr
    go_wp2_with fail
    refine HDr.out.mono ?_
    clear HDr
    generalize w4.alloc (.cells #[.int .i64 k4, .int .i64 i4, .string T4, .slice A4 n4 c4, .slice E4 m4 d4] 25) = x4 at *
    have hx4 : w4.heap.size < x4.heap.size := HB4.out.lt
    rintro e w5 hp
    obtain ⟨hb5, u5, rfl, hov⟩ := ob_res hp
    have HOv := Lib.hid hov
    have hst5 := HSt4.out.later hb5
    have hHB45 := HB4.out.below hb5 HB4.out.lt
    have hx5 := hb5.size
    have hv45 := HV4.out.later hb5
    dsimp only [codeR, resR] at hov HOv ⊢
    obtain ⟨kv5, dv5, us5, rfl, s1, s2, -, -⟩ := hov.open_
    obtain ⟨A5, c5, rfl⟩ := s1.form
    obtain ⟨E5, d5, rfl⟩ := s2.form
    clear s1 s2
    unfold V5.val
    dsimp only [Ox.zero, Ox.kind, Ox.int, Ox.text, Ox.keys, Ox.kids, strs, List.map_nil, List.length_nil]
    have hal := (Below.refl w5.heap.size w5).alloc (Nat.le_refl _) (.cells #[.int .i64 0, .int .i64 0, .string ⟨#[]⟩, .slice A5 0 c5, .slice E5 0 d5] 25)
    have hst5' := hst5.later hal
    have HBe : Hid (Below w.heap.size w (w5.alloc (.cells #[.int .i64 0, .int .i64 0, .string ⟨#[]⟩, .slice A5 0 c5, .slice E5 0 d5] 25))) := hst5'.be
    have HSm : Hid (Calls Tryz.prog 13 #[.agg #[.int .i64 k0, .int .i64 i0, .string T0, .slice A0 n0 c0, .slice E0 m0 d0], .agg #[.int .i64 k4, .int .i64 i4, .string T4, .slice A4 n4 c4, .slice E4 m4 d4]] (w5.alloc (.cells #[.int .i64 0, .int .i64 0, .string ⟨#[]⟩, .slice A5 0 c5, .slice E5 0 d5] 25)) fun e w' => e = .returned (.bool true) ∧ Below (w5.alloc (.cells #[.int .i64 0, .int .i64 0, .string ⟨#[]⟩, .slice A5 0 c5, .slice E5 0 d5] 25)).heap.size (w5.alloc (.cells #[.int .i64 0, .int .i64 0, .string ⟨#[]⟩, .slice A5 0 c5, .slice E5 0 d5] 25)) w') := same_same (va := ⟨.int .i64 k0, .int .i64 i0, .string T0, .slice A0 n0 c0, .slice E0 m0 d0⟩) (vb := ⟨.int .i64 k4, .int .i64 i4, .string T4, .slice A4 n4 c4, .slice E4 m4 d4⟩) (HVo.out _ hst5'.be).1 (hv45.alloc _)
    have z0 := hst5.h0.lt
    have z1 := hHB45.lt
    obtain ⟨x0, x1, x2, x3, x4⟩ := b5_cells (v := ⟨.int .i64 k0, .int .i64 i0, .string T0, .slice A0 n0 c0, .slice E0 m0 d0⟩) hst5.h0
    obtain ⟨y0, y1, y2, y3, y4⟩ := b5_cells (v := ⟨.int .i64 k4, .int .i64 i4, .string T4, .slice A4 n4 c4, .slice E4 m4 d4⟩) hHB45
    dsimp only at x0 x1 x2 x3 x4 y0 y1 y2 y3 y4
    have hc0 : ((0 : Int) == 0) = true := rfl
    have hc8 : ((8 : Int) == 8) = true := rfl
    clear hp hb5 hov HOv hst5 hst5' hal hv45 hHB45 HB4 HV4 HSt4
    go_wp2_with fail
    refine HSm.out.mono ?_
    rintro e w6 ⟨rfl, hb6⟩
    have HBe6 := Lib.hid (HBe.out.trans (hb6.mono HBe.out.size))
    clear hb6 x0 x1 x2 x3 x4 y0 y1 y2 y3 y4 z0 z1 HSm
    go_wp2_with fail
    go_ret
    exact ⟨rfl, HBe6.out⟩
end Go.Proofs.YthbdhijkdldmoaaGreatDoor
