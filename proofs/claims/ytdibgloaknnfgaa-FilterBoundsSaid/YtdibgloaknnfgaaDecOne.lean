/- The walks of Check, codingOf and Decode at a chain of one step that decodes differences. -/
import Derived.Test.YtdibgloaknnfgaaRowsDec
import Derived.Test.YtdibgloaknnfgaaLaid
import Derived.Deep.RegionLaw
import Derived.Deep.DeepMust
namespace Go.Proofs.Ytdibgloaknnfgaa
open Go.RowKit
/-- A chain of one step of kind k and number n, in memory. -/
def One (w : World) (b off : Nat) (k n : Int) : Prop := b < w.heap.size ∧ w.cell? ⟨b, off, none⟩ = some (.int .i64 k) ∧ w.cell? ⟨b, off + 1, none⟩ = some (.int .i64 n)
theorem One.later {w w' : World} {b off : Nat} {k n : Int} (h : One w b off k n) (hb : Below w.heap.size w w') : One w' b off k n :=
  ⟨Nat.lt_of_lt_of_le h.1 hb.size, (hb.cell (p := ⟨b, off, none⟩) h.1).trans h.2.1, (hb.cell (p := ⟨b, off + 1, none⟩) h.1).trans h.2.2⟩
theorem check_row (b off c : Nat) (n : Nat) (w : World) (h : One w b off 2 n) (h0 : 1 ≤ n) (h1 : n ≤ 1024) :
    Calls Try.prog 12 #[.slice (some ⟨b, off, none⟩) 1 c] w fun e w' => e = .returned (.int .i64 0) ∧ Below w.heap.size w w' := by
  obtain ⟨hb, c0, c1⟩ := h
  have f1 : (decide ((n : Int) < 1) || decide (1024 < (n : Int))) = false := by simp; omega
  go_enter Try.func12, Try.ntmps12
  go_wp2
  refine wp_loop_rounds 2 ?_
  rw [rounds_succ]
  go_wp2
  rw [rounds_succ]
  go_wp2
  go_ret
  exact ⟨rfl, (Below.refl _ _).alloc (Nat.le_refl _) _⟩
theorem coding_row (n : Int) (w : World) : Calls Try.prog 13 #[.agg #[.int .i64 2, .int .i64 n]] w fun e w' => e = .returned (.iface 45 (.agg #[.int .i64 n])) ∧ Below w.heap.size w w' := by
  go_enter Try.func13, Try.ntmps13
  go_wp2
  go_ret
  exact ⟨rfl, (Below.refl _ _).alloc (Nat.le_refl _) _⟩
theorem method_dec (n : Int) (w : World) : (method 192 45 (.agg #[.int .i64 n]) "printworks/filter.decode").run Try.prog w = .ok (49, .agg #[.int .i64 n]) w := by kernel_rfl
theorem clone_str (s : ByteArray) (w : World) (hs : s.size ≤ 281474976710656) : Calls Try.prog 14 #[.string s] w fun e w' => e = .returned (.string s) ∧ Below w.heap.size w w' := by
  have H := Lib.hid (stringslite_Clone s w hs)
  go_enter Try.func14, Try.ntmps14
  go_wp2_with (go_at_call 15; refine H.out.mono ?_; rintro e w' ⟨rfl, hb⟩)
  go_ret
  exact ⟨rfl, hb⟩
set_option maxHeartbeats 1000000 in
theorem decode_row (b off c n : Nat) (s : ByteArray) (w : World) (h : One w b off 2 n) (h0 : 1 ≤ n) (h1 : n ≤ 1024) (hs : s.size ≤ 16384) :
    Calls Try.prog 11 #[.slice (some ⟨b, off, none⟩) 1 c, .string s] w (DecPost w (dec n s.data.toList)) := by
  have HC := Lib.hid (check_row b off c n w h h0 h1)
  have HO := Lib.hid h
  have hlen : (dec n s.data.toList).length = s.size := by rw [dec, dTo_length]; simp
  generalize hd : dec n s.data.toList = D at *
  have HD := Lib.hid hd
  have hdl : D.length ≤ 16384 := by omega
  have HCl := Lib.hid (fun w => clone_str ⟨D.toArray⟩ w (by show D.toArray.size ≤ _; simp; omega))
  clear h hd hlen
  have hm := method_dec (n : Int)
  go_enter Try.func11, Try.ntmps11
  go_wp2_with (first | (go_at_call 12; refine HC.out.mono ?_; rintro e w1 ⟨rfl, hb1⟩; have HB1 := Lib.hid hb1; obtain ⟨p0, p1, p2⟩ := HO.out.later hb1; clear hb1))
  refine wp_loop_rounds 2 ?_
  rw [rounds_succ]
  go_wp2_with (first
    | (go_at_call 13; refine (coding_row _ _).mono ?_; rintro e w2 ⟨rfl, hb2⟩; have HB2 := Lib.hid hb2; clear hb2)
    | (go_at_call 49; refine (rows_dec n s _ (by omega) (by omega) (by omega)).mono ?_; rintro e w3 ⟨rfl, hb3⟩; rw [HD.out]; have HB3 := Lib.hid hb3; clear hb3))
  rw [rounds_succ]
  go_wp2_with (go_at_call 14; refine (HCl.out _).mono ?_; rintro e w4 ⟨rfl, hb4⟩; have HB4 := Lib.hid hb4; clear hb4)
  have H2 := HB1.out.trans (HB2.out.mono HB1.out.size)
  have H3 := H2.trans (HB3.out.mono H2.size)
  exact bodyPost_ret (v := .tuple #[.string ⟨D.toArray⟩, .int .i64 0]) (by simp [results, Try.results11, go_sem]) rfl ⟨rfl, H3.trans (HB4.out.mono H3.size)⟩
end Go.Proofs.Ytdibgloaknnfgaa
