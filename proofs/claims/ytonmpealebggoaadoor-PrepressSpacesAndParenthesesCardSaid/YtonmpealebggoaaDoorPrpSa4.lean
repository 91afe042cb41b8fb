/- The walk of sameCond. The walk of sameRule. The walk of slices.EqualFunc at rules. -/
import Derived.Test.YtonmpealebggoaaDoorPrpSa1
import Derived.Deep.DeepCutAuto
import Derived.Deep.CutBlock
namespace Go.Proofs.YtonmpealebggoaaDoor
open Go.RowKit Pr
set_option maxRecDepth 100000 in
set_option maxHeartbeats 16000000 in
theorem same_step (o : Cd) (va vb : V5) (P Q : Nat → Prop) (w : World) (ha : CdV P w va o) (hb : CdV Q w vb o)
    (hc : ∀ j (h1 : j < o.kids.length) (v1 v2 : V5) W, CdV P W v1 o.kids[j] → CdV Q W v2 o.kids[j] → Calls Tryd.prog 32 #[v1.val, v2.val] W (TruePost W)) :
    Calls Tryd.prog 32 #[va.val, vb.val] w (TruePost w) := by
  obtain ⟨ka1, da1, sa, rfl, s1, t1, la, kia, -⟩ := ha.open_
  obtain ⟨ka2, da2, sb, rfl, s2, t2, lb, kib, -⟩ := hb.open_
  have HEs : Hid (∀ W, Below w.heap.size w W → Calls Tryd.prog 58 #[ka1, ka2] W fun e w' => e = .returned (.bool true) ∧ Below W.heap.size W w') := fun W hW => eqt_any _ _ _ P Q W (s1.later hW) (s2.later hW)
  have HEf : Hid (∀ W, Below w.heap.size w W → Calls Tryd.prog 59 #[da1, da2, .func (.func 32) #[] #[]] W (TruePost W)) := fun W hW =>
    eqc_any _ _ _ sa sb P Q W (t1.later hW) (t2.later hW) la lb (fun j h h2 => (kia j h h2).later hW) (fun j h h2 => (kib j h h2).later hW) hc
  obtain ⟨A1, n1, rfl⟩ := s1.form
  obtain ⟨A2, n2, rfl⟩ := s2.form
  obtain ⟨A3, n3, rfl⟩ := t1.form
  obtain ⟨A4, n4, rfl⟩ := t2.form
  clear ha hb hc s1 s2 t1 t2 la lb kia kib
  have hbx : Below w.heap.size w ((w.alloc (.cells #[.int .i64 o.kind, .slice A1 o.terms.length n1, .int .i64 o.cmp, .int .i64 o.than, .slice A3 o.kids.length n3] 34)).alloc (.cells #[.int .i64 o.kind, .slice A2 o.terms.length n2, .int .i64 o.cmp, .int .i64 o.than, .slice A4 o.kids.length n4] 34)) := ((Below.refl _ _).alloc (Nat.le_refl _) _).alloc (by simp) _
  have hx := Blk.alloc (Blk.new w 34 #[.int .i64 o.kind, .slice A1 o.terms.length n1, .int .i64 o.cmp, .int .i64 o.than, .slice A3 o.kids.length n3]) (.cells #[.int .i64 o.kind, .slice A2 o.terms.length n2, .int .i64 o.cmp, .int .i64 o.than, .slice A4 o.kids.length n4] 34)
  have hy := Blk.new (w.alloc (.cells #[.int .i64 o.kind, .slice A1 o.terms.length n1, .int .i64 o.cmp, .int .i64 o.than, .slice A3 o.kids.length n3] 34)) 34 #[.int .i64 o.kind, .slice A2 o.terms.length n2, .int .i64 o.cmp, .int .i64 o.than, .slice A4 o.kids.length n4]
  rw [show (w.alloc (.cells #[.int .i64 o.kind, .slice A1 o.terms.length n1, .int .i64 o.cmp, .int .i64 o.than, .slice A3 o.kids.length n3] 34)).heap.size = w.heap.size + 1 by simp] at hy
  have HBx := Lib.hid hbx
  have HX := Lib.hid hx
  have HY := Lib.hid hy
  clear hbx hx hy
  unfold V5.val
  dsimp only
  generalize o.terms.length = m1 at *
  generalize o.kids.length = m3 at *
  generalize o.kind = k1 at *
  generalize o.cmp = i1 at *
  generalize o.than = T1 at *
  go_enter Tryd.func32, Tryd.ntmps32
  go_upto_region 1 with (fail)
  generalize (w.alloc (.cells #[.int .i64 k1, .slice A1 m1 n1, .int .i64 i1, .int .i64 T1, .slice A3 m3 n3] 34)).alloc (.cells #[.int .i64 k1, .slice A2 m1 n2, .int .i64 i1, .int .i64 T1, .slice A4 m3 n4] 34) = w1 at *
  obtain ⟨x0, x1, x2, x3, x4⟩ := b5_cells HX.out
  obtain ⟨y0, y1, y2, y3, y4⟩ := b5_cells HY.out
  have xl := HX.out.lt
  have yl := HY.out.lt
  go_wp2_with fail
  refine (HEs.out _ HBx.out).mono ?_
  rintro e w2 ⟨rfl, hb2⟩
  have HB2 := Lib.hid (HBx.out.trans (hb2.mono HBx.out.size))
  have hx2 := HX.out.below hb2 xl
  have hy2 := HY.out.below hb2 yl
  clear x0 x1 x2 x3 x4 y0 y1 y2 y3 y4
  obtain ⟨x0, x1, x2, x3, x4⟩ := b5_cells hx2
  obtain ⟨y0, y1, y2, y3, y4⟩ := b5_cells hy2
  clear hb2 hx2 hy2
  go_wp2_with fail
  refine (HEf.out _ HB2.out).mono ?_
  rintro e w3 ⟨rfl, hb3⟩
  have HB3 := Lib.hid (HB2.out.trans (hb3.mono HB2.out.size))
  clear hb3 x0 x1 x2 x3 x4 y0 y1 y2 y3 y4
  go_wp2_with fail
  go_ret
  exact ⟨rfl, HB3.out⟩
theorem same_any : ∀ (n : Nat) (o : Cd) (va vb : V5) (P Q : Nat → Prop) (w : World), SizeOf.sizeOf o ≤ n → CdV P w va o → CdV Q w vb o → Calls Tryd.prog 32 #[va.val, vb.val] w (TruePost w)
  | 0, o, va, vb, P, Q, w, hn, ha, hb => by cases o; simp at hn
  | n + 1, o, va, vb, P, Q, w, hn, ha, hb => same_step o va vb P Q w ha hb fun j h1 v1 v2 W h3 h4 => same_any n _ v1 v2 P Q W (by
      have h5 : SizeOf.sizeOf o.kids[j] < SizeOf.sizeOf o.kids := List.sizeOf_lt_of_mem (List.getElem_mem h1)
      obtain ⟨k, i, t, ks, os⟩ := o
      simp only [Cd.kids] at h5
      simp at hn
      show SizeOf.sizeOf os[j] ≤ n
      omega) h3 h4
end Go.Proofs.YtonmpealebggoaaDoor
namespace Go.Proofs.YtonmpealebggoaaDoor
open Go.RowKit Pr
set_option maxRecDepth 100000 in
set_option maxHeartbeats 16000000 in
theorem sameRule_any (nm : Src) (o : Cd) (va vb : V5) (P Q : Nat → Prop) (w : World) (ha : CdV P w va o) (hb : CdV Q w vb o) :
    Calls Tryd.prog 13 #[.agg #[.string (Bs nm), va.k, va.t, va.c, va.n, va.d], .agg #[.string (Bs nm), vb.k, vb.t, vb.c, vb.n, vb.d]] w (TruePost w) := by
  have hbx : Below w.heap.size w ((w.alloc (.cells #[.string (Bs nm), va.k, va.t, va.c, va.n, va.d] 36)).alloc (.cells #[.string (Bs nm), vb.k, vb.t, vb.c, vb.n, vb.d] 36)) := ((Below.refl _ _).alloc (Nat.le_refl _) _).alloc (by simp) _
  have hx := Blk.alloc (Blk.new w 36 #[.string (Bs nm), va.k, va.t, va.c, va.n, va.d]) (.cells #[.string (Bs nm), vb.k, vb.t, vb.c, vb.n, vb.d] 36)
  have hy := Blk.new (w.alloc (.cells #[.string (Bs nm), va.k, va.t, va.c, va.n, va.d] 36)) 36 #[.string (Bs nm), vb.k, vb.t, vb.c, vb.n, vb.d]
  rw [show (w.alloc (.cells #[.string (Bs nm), va.k, va.t, va.c, va.n, va.d] 36)).heap.size = w.heap.size + 1 by simp] at hy
  have HC := Lib.hid (same_any _ o va vb P Q _ (Nat.le_refl _) (ha.later hbx) (hb.later hbx))
  obtain ⟨ka1, da1, sa, rfl, s1, t1, -, -, -⟩ := ha.open_
  obtain ⟨ka2, da2, sb, rfl, s2, t2, -, -, -⟩ := hb.open_
  obtain ⟨A1, n1, rfl⟩ := s1.form
  obtain ⟨A2, n2, rfl⟩ := s2.form
  obtain ⟨A3, n3, rfl⟩ := t1.form
  obtain ⟨A4, n4, rfl⟩ := t2.form
  dsimp only [V5.val] at *
  have HBx := Lib.hid hbx
  have HX := Lib.hid hx
  have HY := Lib.hid hy
  clear hbx hx hy s1 s2 t1 t2 ha hb
  generalize Bs nm = B at *
  generalize o.terms.length = m1 at *
  generalize o.kids.length = m3 at *
  generalize o.kind = k1 at *
  generalize o.cmp = i1 at *
  generalize o.than = T1 at *
  go_enter Tryd.func13, Tryd.ntmps13
  go_upto_region 1 with (fail)
  generalize (w.alloc (.cells #[.string B, .int .i64 k1, .slice A1 m1 n1, .int .i64 i1, .int .i64 T1, .slice A3 m3 n3] 36)).alloc (.cells #[.string B, .int .i64 k1, .slice A2 m1 n2, .int .i64 i1, .int .i64 T1, .slice A4 m3 n4] 36) = w1 at *
  obtain ⟨x0, x1, x2, x3, x4, x5⟩ := b6_cells HX.out
  obtain ⟨y0, y1, y2, y3, y4, y5⟩ := b6_cells HY.out
  have xl := HX.out.lt
  have yl := HY.out.lt
  have hBB : (B.toList == B.toList) = true := by simp
  go_wp2_with fail
  refine HC.out.mono ?_
  rintro e w3 ⟨rfl, hb3⟩
  have HB3 := Lib.hid (HBx.out.trans (hb3.mono HBx.out.size))
  clear hb3 x0 x1 x2 x3 x4 y0 y1 y2 y3 y4
  go_wp2_with fail
  go_ret
  exact ⟨rfl, HB3.out⟩
end Go.Proofs.YtonmpealebggoaaDoor
namespace Go.Proofs.YtonmpealebggoaaDoor
open Go.RowKit Pr
set_option maxRecDepth 100000 in
set_option maxHeartbeats 16000000 in
theorem eqr_any (l : List Rl) (va vb : Value) (P Q : Nat → Prop) (w : World) (ha : RlsV P w va l) (hb : RlsV Q w vb l) :
    Calls Tryd.prog 12 #[va, vb, .func (.func 13) #[] #[]] w (TruePost w) := by
  have HA := Lib.hid ha
  have HB := Lib.hid hb
  obtain ⟨A, ca, rfl⟩ := ha.form
  obtain ⟨B, cb, rfl⟩ := hb.form
  obtain ⟨-, h1, h2⟩ := ha.caps
  obtain ⟨-, h3, h4⟩ := hb.caps
  unfold maxLen at h2 h4
  clear ha hb
  go_enter Tryd.func12, Tryd.ntmps12
  go_wp2_with fail
  go_loopw [7, 17] (fun _ vi wr => True ∧ ∃ i : Nat, i ≤ l.length ∧ vi = .int .i64 i ∧ Below w.heap.size w wr) (fun _ i _ => l.length - (intOf i).toNat)
  case atStart => exact ⟨trivial, 0, by omega, rfl, Below.refl _ _⟩
  case round =>
    obtain ⟨-, i, hi, rfl, hbl⟩ := hrel
    have HBl := Lib.hid hbl
    have hsz := hbl.size
    by_cases hlt : i < l.length
    · have hia : (i : Int) < (l.length : Int) := by omega
      obtain ⟨b1, o1, rfl, -, hl1, c1⟩ := rl_at HA.out (by omega)
      obtain ⟨b2, o2, rfl, -, hl2, c2⟩ := rl_at HB.out (by omega)
      obtain ⟨A1, n1, A3, n3, hoa, y0, y1, y2, y3, y4, y5⟩ := c1 i hlt
      obtain ⟨A2, n2, A4, n4, hob, x0, x1, x2, x3, x4, x5⟩ := c2 i hlt
      have hb1 : b1 < wr.heap.size := by omega
      have hb2 : b2 < wr.heap.size := by omega
      have HOa := Lib.hid (hoa.later hbl)
      have HOb := Lib.hid (hob.later hbl)
      replace y0 := (hbl.cell (p := ⟨b1, _, none⟩) hl1).trans y0
      replace y1 := (hbl.cell (p := ⟨b1, _, none⟩) hl1).trans y1
      replace y2 := (hbl.cell (p := ⟨b1, _, none⟩) hl1).trans y2
      replace y3 := (hbl.cell (p := ⟨b1, _, none⟩) hl1).trans y3
      replace y4 := (hbl.cell (p := ⟨b1, _, none⟩) hl1).trans y4
      replace y5 := (hbl.cell (p := ⟨b1, _, none⟩) hl1).trans y5
      replace x0 := (hbl.cell (p := ⟨b2, _, none⟩) hl2).trans x0
      replace x1 := (hbl.cell (p := ⟨b2, _, none⟩) hl2).trans x1
      replace x2 := (hbl.cell (p := ⟨b2, _, none⟩) hl2).trans x2
      replace x3 := (hbl.cell (p := ⟨b2, _, none⟩) hl2).trans x3
      replace x4 := (hbl.cell (p := ⟨b2, _, none⟩) hl2).trans x4
      replace x5 := (hbl.cell (p := ⟨b2, _, none⟩) hl2).trans x5
      have HCi : Hid (∀ W, Below wr.heap.size wr W → Calls Tryd.prog 13 #[.agg #[.string (Bs (l.getD i rl0).1), .int .i64 (l.getD i rl0).2.kind, .slice A1 (l.getD i rl0).2.terms.length n1, .int .i64 (l.getD i rl0).2.cmp, .int .i64 (l.getD i rl0).2.than, .slice A3 (l.getD i rl0).2.kids.length n3],
          .agg #[.string (Bs (l.getD i rl0).1), .int .i64 (l.getD i rl0).2.kind, .slice A2 (l.getD i rl0).2.terms.length n2, .int .i64 (l.getD i rl0).2.cmp, .int .i64 (l.getD i rl0).2.than, .slice A4 (l.getD i rl0).2.kids.length n4]] W (TruePost W)) := fun W hW => by
        have hh := sameRule_any (l.getD i rl0).1 (l.getD i rl0).2 _ _ P Q W (HOa.out.later hW) (HOb.out.later hW)
        exact hh
      clear c1 c2 hoa hob
      generalize Bs (l.getD i rl0).1 = q1 at *
      generalize (l.getD i rl0).2.terms.length = m1 at *
      generalize (l.getD i rl0).2.kids.length = m2 at *
      generalize (l.getD i rl0).2.kind = q3 at *
      generalize (l.getD i rl0).2.cmp = q4 at *
      generalize (l.getD i rl0).2.than = q5 at *
      have hl' : Below wr.heap.size wr ((wr.alloc (.cells #[.string q1, .int .i64 q3, .slice A1 m1 n1, .int .i64 q4, .int .i64 q5, .slice A3 m2 n3] 36)).alloc (.cells #[.string q1, .int .i64 q3, .slice A2 m1 n2, .int .i64 q4, .int .i64 q5, .slice A4 m2 n4] 36)) := ((Below.refl _ _).alloc (Nat.le_refl _) _).alloc (by simp) _
      have HL1 := Lib.hid hl'
      have HL2 := Lib.hid (HBl.out.trans (hl'.mono HBl.out.size))
      clear hl'
      go_wp2_with fail
      refine (HCi.out _ HL1.out).mono ?_
      rintro e w2 ⟨rfl, hb2'⟩
      have HB2 := Lib.hid (HL2.out.trans (hb2'.mono HL2.out.size))
      clear hb2' y0 y1 y2 y3 y4 y5 x0 x1 x2 x3 x4 x5
      go_wp2_with fail
      go_roundw
      case rel => exact ⟨trivial, i + 1, by omega, by go_num, HB2.out⟩
      case measure => simp [intOf]; omega
    · have hia : ¬ (i : Int) < (l.length : Int) := by omega
      go_wp2_with fail
      go_ret
      exact ⟨rfl, HBl.out⟩
end Go.Proofs.YtonmpealebggoaaDoor
