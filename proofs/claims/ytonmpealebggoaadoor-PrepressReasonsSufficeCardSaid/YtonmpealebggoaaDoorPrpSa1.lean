/- The walk of slices.Equal at terms: two slices that read as one list. The walks of sameCond and sameRule: what reads as one rule is the same. -/
import Derived.Test.YtonmpealebggoaaDoorPrpRul0
import Derived.Deep.DeepCutAuto
import Derived.Deep.CutBlock
namespace Go.Proofs.YtonmpealebggoaaDoor
open Go.RowKit Pr
set_option maxRecDepth 100000 in
set_option maxHeartbeats 4000000 in
theorem eqt_any (ts : List Tm) (va vb : Value) (P Q : Nat → Prop) (w : World) (ha : SlM w P va ts.length (tcells ts)) (hb : SlM w Q vb ts.length (tcells ts)) :
    Calls Tryd.prog 58 #[va, vb] w fun e w' => e = .returned (.bool true) ∧ Below w.heap.size w w' := by
  obtain ⟨A, ca, rfl⟩ := ha.form
  obtain ⟨B, cb, rfl⟩ := hb.form
  obtain ⟨-, h1, h2⟩ := ha.caps
  obtain ⟨-, h3, h4⟩ := hb.caps
  unfold maxLen at h2 h4
  have HA := Lib.hid ha
  have HB := Lib.hid hb
  clear ha hb
  generalize hn : ts.length = n at *
  have HN := Lib.hid hn
  clear hn
  go_enter Tryd.func58, Tryd.ntmps58
  go_wp2_with fail
  go_loopw [5, 13] (fun _ vi wr => ∃ i : Nat, i ≤ n ∧ vi = .int .i64 i ∧ Below w.heap.size w wr) (fun _ i _ => n - (intOf i).toNat)
  case atStart => exact ⟨0, by omega, rfl, Below.refl _ _⟩
  case round =>
    obtain ⟨i, hi, rfl, hbl⟩ := hrel
    by_cases hlt : i < n
    · have t0 : decide ((i : Int) < (n : Int)) = true := by simp; omega
      obtain ⟨b1, o1, rfl, -, hl1, c1⟩ := tm_at (by rw [HN.out]; exact HA.out) (by rw [HN.out]; omega)
      obtain ⟨b2, o2, rfl, -, hl2, c2⟩ := tm_at (by rw [HN.out]; exact HB.out) (by rw [HN.out]; omega)
      obtain ⟨x0, x1⟩ := c1 i (by rw [HN.out]; exact hlt)
      obtain ⟨y0, y1⟩ := c2 i (by rw [HN.out]; exact hlt)
      replace x0 := (hbl.cell (p := ⟨b1, _, none⟩) hl1).trans x0
      replace x1 := (hbl.cell (p := ⟨b1, _, none⟩) hl1).trans x1
      replace y0 := (hbl.cell (p := ⟨b2, _, none⟩) hl2).trans y0
      replace y1 := (hbl.cell (p := ⟨b2, _, none⟩) hl2).trans y1
      have hb1 := Nat.lt_of_lt_of_le hl1 hbl.size
      have hb2 := Nat.lt_of_lt_of_le hl2 hbl.size
      have HBl := Lib.hid hbl
      clear c1 c2 hl1 hl2 hbl
      generalize (ts.getD i tm0).1 = q1 at *
      generalize (⟨(ts.getD i tm0).2.toArray⟩ : ByteArray) = q2 at *
      go_wp2_with fail
      go_quiet (fail)
      go_wp2_with fail
      go_roundw
      case rel => exact ⟨i + 1, by omega, by go_num, ⟨HBl.out.os, HBl.out.tape, HBl.out.output, HBl.out.size, HBl.out.block⟩⟩
      case measure => simp [intOf]; omega
    · have t0 : decide ((i : Int) < (n : Int)) = false := by simp; omega
      go_wp2_with fail
      go_ret
      exact ⟨rfl, hbl⟩
end Go.Proofs.YtonmpealebggoaaDoor
namespace Go.Proofs.YtonmpealebggoaaDoor
open Go.RowKit Pr
def TruePost (w : World) (e : Ending) (w' : World) : Prop := e = .returned (.bool true) ∧ Below w.heap.size w w'
theorem b5_cells {w : World} {g : Nat} {t : TypeId} {a b c d e : Value} (h : Blk w g t #[a, b, c, d, e]) : w.cell? ⟨g, 0, none⟩ = some a ∧ w.cell? ⟨g, 1, none⟩ = some b ∧ w.cell? ⟨g, 2, none⟩ = some c ∧ w.cell? ⟨g, 3, none⟩ = some d ∧ w.cell? ⟨g, 4, none⟩ = some e :=
  ⟨by simpa using Blk.cell h 0, by simpa using Blk.cell h 1, by simpa using Blk.cell h 2, by simpa using Blk.cell h 3, by simpa using Blk.cell h 4⟩
theorem b6_cells {w : World} {g : Nat} {t : TypeId} {a b c d e f : Value} (h : Blk w g t #[a, b, c, d, e, f]) : w.cell? ⟨g, 0, none⟩ = some a ∧ w.cell? ⟨g, 1, none⟩ = some b ∧ w.cell? ⟨g, 2, none⟩ = some c ∧ w.cell? ⟨g, 3, none⟩ = some d ∧ w.cell? ⟨g, 4, none⟩ = some e ∧ w.cell? ⟨g, 5, none⟩ = some f :=
  ⟨by simpa using Blk.cell h 0, by simpa using Blk.cell h 1, by simpa using Blk.cell h 2, by simpa using Blk.cell h 3, by simpa using Blk.cell h 4, by simpa using Blk.cell h 5⟩
set_option maxRecDepth 100000 in
set_option maxHeartbeats 16000000 in
theorem eqc_any (os : List Cd) (va vb : Value) (sa sb : List V5) (P Q : Nat → Prop) (w : World) (ha : SlM w P va os.length (v5cs sa)) (hb : SlM w Q vb os.length (v5cs sb)) (la : sa.length = os.length) (lb : sb.length = os.length)
    (ka : ∀ j (h : j < os.length) (h2 : j < sa.length), CdV P w sa[j] os[j]) (kb : ∀ j (h : j < os.length) (h2 : j < sb.length), CdV Q w sb[j] os[j])
    (hc : ∀ j (h1 : j < os.length) (v1 v2 : V5) W, CdV P W v1 os[j] → CdV Q W v2 os[j] → Calls Tryd.prog 32 #[v1.val, v2.val] W (TruePost W)) :
    Calls Tryd.prog 59 #[va, vb, .func (.func 32) #[] #[]] w (TruePost w) := by
  have HA := Lib.hid ha
  have HB := Lib.hid hb
  obtain ⟨A, ca, rfl⟩ := ha.form
  obtain ⟨B, cb, rfl⟩ := hb.form
  obtain ⟨-, h1, h2⟩ := ha.caps
  obtain ⟨-, h3, h4⟩ := hb.caps
  unfold maxLen at h2 h4
  have HKa := Lib.hid ka
  have HKb := Lib.hid kb
  have HC := Lib.hid hc
  have HLa := Lib.hid la
  have HLb := Lib.hid lb
  clear ha hb ka kb hc la lb
  go_enter Tryd.func59, Tryd.ntmps59
  go_wp2_with fail
  go_loopw [7, 17] (fun _ vi wr => True ∧ ∃ i : Nat, i ≤ os.length ∧ vi = .int .i64 i ∧ Below w.heap.size w wr) (fun _ i _ => os.length - (intOf i).toNat)
  case atStart => exact ⟨trivial, 0, by omega, rfl, Below.refl _ _⟩
  case round =>
    obtain ⟨-, i, hi, rfl, hbl⟩ := hrel
    have HBl := Lib.hid hbl
    have hsz := hbl.size
    by_cases hlt : i < os.length
    · have hia : (i : Int) < (os.length : Int) := by omega
      have hva : i < sa.length := by have := HLa.out; omega
      have hvb : i < sb.length := by have := HLb.out; omega
      obtain ⟨b1, o1, e1, -, hl1, c1⟩ := v5_at (l := sa) (by rw [HLa.out]; exact HA.out) (by omega)
      obtain ⟨b2, o2, e2, -, hl2, c2⟩ := v5_at (l := sb) (by rw [HLb.out]; exact HB.out) (by omega)
      subst e1 e2
      obtain ⟨y0, y1, y2, y3, y4⟩ := c1 i hva
      obtain ⟨x0, x1, x2, x3, x4⟩ := c2 i hvb
      have hoa := (HKa.out i hlt hva).later hbl
      have hob := (HKb.out i hlt hvb).later hbl
      have HCi := Lib.hid (HC.out i hlt (sa[i]'hva) (sb[i]'hvb))
      have HOa := Lib.hid hoa
      have HOb := Lib.hid hob
      generalize sa[i] = va at *
      generalize sb[i] = vb at *
      generalize os[i] = ua at *
      obtain ⟨ka1, da1, us1, hu1, s1, t1, -, -⟩ := hoa.open_
      obtain ⟨ka2, da2, us2, hu2, s2, t2, -, -⟩ := hob.open_
      subst hu1 hu2
      obtain ⟨A1, n1, rfl⟩ := s1.form
      obtain ⟨A2, n2, rfl⟩ := s2.form
      obtain ⟨A3, n3, rfl⟩ := t1.form
      obtain ⟨A4, n4, rfl⟩ := t2.form
      unfold V5.val at HCi
      dsimp only at y0 y1 y2 y3 y4 x0 x1 x2 x3 x4 HCi
      have hb1 : b1 < wr.heap.size := by omega
      have hb2 : b2 < wr.heap.size := by omega
      replace y0 := (hbl.cell (p := ⟨b1, _, none⟩) hl1).trans y0
      replace y1 := (hbl.cell (p := ⟨b1, _, none⟩) hl1).trans y1
      replace y2 := (hbl.cell (p := ⟨b1, _, none⟩) hl1).trans y2
      replace y3 := (hbl.cell (p := ⟨b1, _, none⟩) hl1).trans y3
      replace y4 := (hbl.cell (p := ⟨b1, _, none⟩) hl1).trans y4
      replace x0 := (hbl.cell (p := ⟨b2, _, none⟩) hl2).trans x0
      replace x1 := (hbl.cell (p := ⟨b2, _, none⟩) hl2).trans x1
      replace x2 := (hbl.cell (p := ⟨b2, _, none⟩) hl2).trans x2
      replace x3 := (hbl.cell (p := ⟨b2, _, none⟩) hl2).trans x3
      replace x4 := (hbl.cell (p := ⟨b2, _, none⟩) hl2).trans x4
      generalize ua.terms.length = m1 at *
      generalize hq2 : ua.kids.length = m2 at *
      generalize hq3 : ua.kind = q3 at *
      generalize hq4 : ua.cmp = q4 at *
      generalize hq5 : ua.than = q5 at *
      have hl' : Below wr.heap.size wr ((wr.alloc (.cells #[.int .i64 q3, .slice A1 m1 n1, .int .i64 q4, .int .i64 q5, .slice A3 m2 n3] 34)).alloc (.cells #[.int .i64 q3, .slice A2 m1 n2, .int .i64 q4, .int .i64 q5, .slice A4 m2 n4] 34)) := ((Below.refl _ _).alloc (Nat.le_refl _) _).alloc (by simp) _
      have HL2 := Lib.hid (HBl.out.trans (hl'.mono HBl.out.size))
      have HOa2 := Lib.hid (HOa.out.later hl')
      have HOb2 := Lib.hid (HOb.out.later hl')
      clear c1 c2 hoa hob s1 s2 t1 t2 hl' hq2 hq3 hq4 hq5
      go_wp2_with fail
      refine (HCi.out _ HOa2.out HOb2.out).mono ?_
      rintro e w2 ⟨rfl, hb2'⟩
      have HB2 := Lib.hid (HL2.out.trans (hb2'.mono HL2.out.size))
      clear hb2' y0 y1 y2 y3 y4 x0 x1 x2 x3 x4
      go_wp2_with fail
      go_roundw
      case rel => exact ⟨trivial, i + 1, by omega, by go_num, HB2.out⟩
      case measure => simp [intOf]; omega
    · have hia : ¬ (i : Int) < (os.length : Int) := by omega
      go_wp2_with fail
      go_ret
      exact ⟨rfl, HBl.out⟩
end Go.Proofs.YtonmpealebggoaaDoor
