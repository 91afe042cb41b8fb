/- The walk of fixed: the width and the spaces of a line. -/
import Derived.Test.YtajmdgkchleipaaProg
import Derived.Test.YtajmdgkchleipaaKit
import Derived.Test.YtajmdgkchleipaaPlain
namespace Go.Proofs.Ytajmdgkchleipaa
open Go.RowKit Para
/-- The parts as they lie in a block of the call's own. -/
structure Parts (w : World) (g : Nat) (l : List Part) : Prop where
  lt : g < w.heap.size
  c0 : ∀ i, i < l.length → w.cell? ⟨g, i * 4, none⟩ = some (.int .i64 (pt l i).width)
  c1 : ∀ i, i < l.length → w.cell? ⟨g, i * 4 + 1, none⟩ = some (.int .i64 (pt l i).join)
  c2 : ∀ i, i < l.length → w.cell? ⟨g, i * 4 + 2, none⟩ = some (.bool (pt l i).first)
  c3 : ∀ i, i < l.length → w.cell? ⟨g, i * 4 + 3, none⟩ = some (.bool (pt l i).last)
theorem Parts.later {w w' : World} {g : Nat} {l : List Part} (h : Parts w g l) (hb : Below w.heap.size w w') : Parts w' g l :=
  ⟨Nat.lt_of_lt_of_le h.lt hb.size, fun i hi => (hb.cell (p := ⟨g, _, none⟩) h.lt).trans (h.c0 i hi), fun i hi => (hb.cell (p := ⟨g, _, none⟩) h.lt).trans (h.c1 i hi),
    fun i hi => (hb.cell (p := ⟨g, _, none⟩) h.lt).trans (h.c2 i hi), fun i hi => (hb.cell (p := ⟨g, _, none⟩) h.lt).trans (h.c3 i hi)⟩
theorem fixed_any (l : List Part) (g c i k : Nat) (s : Shape) (w : World) (hl : l.length ≤ 256) (hP : Parts w g l) (hok : AllOk l) (hs : ShapeOk s) (hik : i < k) (hk : k ≤ l.length) :
    Calls Try.prog 14 #[.slice (some ⟨g, 0, none⟩) l.length c, .int .i64 (i : Int), .int .i64 (k : Int), .agg #[.int .i64 s.W, .int .i64 s.S, .int .i64 s.Lo, .int .i64 s.Mo, .int .i64 s.H, .int .i64 s.C]] w
      fun e w' => e = .returned (.tuple #[.int .i64 (fixW s (l.drop i) (k - i)), .int .i64 (fixG (l.drop i) (k - i))]) ∧ Below w.heap.size w w' := by
  obtain ⟨W0, W1, L0, LS, SM, M1, H0, H1, C0, C1⟩ := hs
  generalize s.W = sW at *
  generalize s.S = sS at *
  generalize s.Lo = sLo at *
  generalize s.Mo = sMo at *
  generalize hH : s.H = sH at *
  generalize s.C = sC at *
  have HH := Lib.hid hH
  clear hH
  generalize hn : l.length = n at *
  have HN := Lib.hid hn
  clear hn
  have hb0 := (Below.refl w.heap.size w).alloc (Nat.le_refl _) (Obj.cells #[Value.int .i64 sW, Value.int .i64 sS, Value.int .i64 sLo, Value.int .i64 sMo, Value.int .i64 sH, Value.int .i64 sC] 24)
  have hP2 := hP.later hb0
  have hbox : (w.alloc (Obj.cells #[Value.int .i64 sW, Value.int .i64 sS, Value.int .i64 sLo, Value.int .i64 sMo, Value.int .i64 sH, Value.int .i64 sC] 24)).cell? ⟨w.heap.size, 4, none⟩ = some (.int .i64 sH) := by
    rw [cell_of_row _ _ 4 _ _ _ (heap_alloc_new w _)]; rfl
  go_enter Try.func14, Try.ntmps14
  go_wp2
  generalize w.alloc (Obj.cells #[Value.int .i64 sW, Value.int .i64 sS, Value.int .i64 sLo, Value.int .i64 sMo, Value.int .i64 sH, Value.int .i64 sC] 24) = w1 at *
  have HP := Lib.hid hP2
  have HB := Lib.hid hb0
  have HX := Lib.hid hbox
  clear hP hP2 hb0 hbox
  go_loop [10, 11, 12] (fun va vb vi => ∃ m : Nat, i + m ≤ k ∧ vi = .int .i64 ((i + m : Nat) : Int) ∧ va = .int .i64 (fixTo (l.drop i) m).1 ∧ vb = .int .i64 (fixTo (l.drop i) m).2) (fun _ _ j => k - (intOf j).toNat)
  case atStart => exact ⟨0, by omega, rfl, rfl, rfl⟩
  case round =>
    obtain ⟨m, hm, rfl, rfl, rfl⟩ := hrel
    obtain ⟨b0, b1, b2, b3⟩ := fixTo_bd (hok.drop i) m
    by_cases hlt : i + m < k
    · have y0 := HP.out.c0 (i + m) (by rw [HN.out]; omega)
      have y1 := HP.out.c1 (i + m) (by rw [HN.out]; omega)
      have y2 := HP.out.c2 (i + m) (by rw [HN.out]; omega)
      obtain ⟨p0, p1, p2, p3⟩ := hok (i + m)
      have HR : Hid (fixTo (l.drop i) (m + 1) = if 0 < m ∧ (pt l (i + m)).first = true then ((fixTo (l.drop i) m).1 + (pt l (i + m)).width, (fixTo (l.drop i) m).2 + 1)
        else if 0 < m then ((fixTo (l.drop i) m).1 + (pt l (i + m)).width + (pt l (i + m)).join, (fixTo (l.drop i) m).2) else ((fixTo (l.drop i) m).1 + (pt l (i + m)).width, (fixTo (l.drop i) m).2)) := by
        unfold Hid; simp only [fixTo, pt_drop]
      generalize (fixTo (l.drop i) m).1 = x at *
      generalize (fixTo (l.drop i) m).2 = y at *
      generalize (pt l (i + m)).width = pw at *
      generalize (pt l (i + m)).join = pj at *
      have hmn : m ≤ 256 := by omega
      by_cases h0 : 0 < m
      · cases hf : (pt l (i + m)).first with
        | true =>
          rw [hf] at y2
          have HE := HR.out
          rw [hf, if_pos ⟨h0, rfl⟩] at HE
          have HE := Lib.hid HE
          clear hf HR
          generalize hj : i + m = j at *
          have HJ := Lib.hid hj
          have hij : (i : Int) < (j : Int) := by omega
          clear hj
          go_wp2
          go_round
          case rel => exact ⟨m + 1, by have := HJ.out; omega, valInt (by have := HJ.out; omega), by rw [HE.out], by rw [HE.out]⟩
          case measure => simp [intOf]; omega
        | false =>
          rw [hf] at y2
          have HE := HR.out
          rw [hf, if_neg (by simp), if_pos h0] at HE
          have HE := Lib.hid HE
          clear hf HR
          generalize hj : i + m = j at *
          have HJ := Lib.hid hj
          have hij : (i : Int) < (j : Int) := by omega
          clear hj
          go_wp2
          go_round
          case rel => exact ⟨m + 1, by have := HJ.out; omega, valInt (by have := HJ.out; omega), by rw [HE.out], by rw [HE.out]⟩
          case measure => simp [intOf]; omega
      · obtain rfl : m = 0 := by omega
        have HE := HR.out
        rw [if_neg (by omega), if_neg (by omega)] at HE
        have HE := Lib.hid HE
        clear HR
        rw [Nat.add_zero] at y0 y1 y2 ⊢
        go_wp2
        go_round
        case rel => exact ⟨0 + 1, by omega, valInt (by omega), by rw [HE.out], by rw [HE.out]⟩
        case measure => simp [intOf]; omega
    · obtain rfl : m = k - i := by omega
      rw [show i + (k - i) = k by omega]
      have y3 := HP.out.c3 (k - 1) (by rw [HN.out]; omega)
      have HW : Hid (fixW s (l.drop i) (k - i) = if (pt l (k - 1)).last = true then (fixTo (l.drop i) (k - i)).1 else (fixTo (l.drop i) (k - i)).1 + sH) := by
        unfold Hid fixW; rw [pt_drop, show i + (k - i - 1) = k - 1 by omega, HH.out]
      have HG : Hid (fixG (l.drop i) (k - i) = (fixTo (l.drop i) (k - i)).2) := rfl
      generalize (fixTo (l.drop i) (k - i)).1 = x at *
      generalize (fixTo (l.drop i) (k - i)).2 = y at *
      obtain ⟨q, rfl⟩ : ∃ q, k = q + 1 := ⟨k - 1, by omega⟩
      rw [Nat.add_sub_cancel] at y3 HW
      have HX2 := HX.out
      cases hf : (pt l q).last with
      | true =>
        rw [hf] at y3
        have HE := HW.out
        rw [hf, if_pos rfl] at HE
        have HE := Lib.hid HE
        clear hf HW
        go_wp2
        go_ret2
        exact ⟨end2 rfl HG.out.symm, HB.out⟩
      | false =>
        rw [hf] at y3
        have HE := HW.out
        rw [hf, if_neg (by simp)] at HE
        have HE := Lib.hid HE
        clear hf HW
        go_wp2
        go_ret2
        exact ⟨end2 rfl HG.out.symm, HB.out⟩
end Go.Proofs.Ytajmdgkchleipaa
