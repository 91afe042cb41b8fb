/- The walk of decoding differences. -/
import Derived.Test.YtdibgloaknnfgaaProg
import Derived.Test.YtdibgloaknnfgaaKit
import Derived.RegionTactic
import Derived.BigRegion
namespace Go.Proofs.Ytdibgloaknnfgaa
open Go.RowKit
def byte (l : List UInt8) (i : Nat) : UInt8 := l.getD i 0
/-- The byte that decoding differences over n gives at place i. -/
def dR (n : Nat) (l : List UInt8) (i : Nat) : UInt8 := if _h : 0 < n ∧ n ≤ i then byte l i + dR n l (i - n) else byte l i
termination_by i
decreasing_by omega
theorem dR_lo {n : Nat} {l : List UInt8} {i : Nat} (h : i < n) : dR n l i = byte l i := by rw [dR, dif_neg (by omega)]
theorem dR_hi {n : Nat} {l : List UInt8} {i : Nat} (h0 : 0 < n) (h : n ≤ i) : dR n l i = byte l i + dR n l (i - n) := by conv => lhs; rw [dR, dif_pos ⟨h0, h⟩]
/-- Bytes of which the first k are decoded. -/
def dTo (n : Nat) (l : List UInt8) (k : Nat) : List UInt8 := (List.range l.length).map fun i => if i < k then dR n l i else byte l i
theorem dTo_length (n : Nat) (l : List UInt8) (k : Nat) : (dTo n l k).length = l.length := by simp [dTo]
theorem dTo_at {n : Nat} {l : List UInt8} {k i : Nat} (h : i < l.length) : (dTo n l k).getD i 0 = if i < k then dR n l i else byte l i := by simp [dTo, List.getD_eq_getElem?_getD, h]
theorem dTo_start (n : Nat) (l : List UInt8) : dTo n l n = l := by
  apply List.ext_getElem
  · simp [dTo]
  · intro i h1 h2
    simp only [dTo, List.getElem_map, List.getElem_range]
    have : byte l i = l[i] := by simp [byte, List.getD_eq_getElem?_getD, h2]
    split
    · rename_i h; rw [dR_lo h, this]
    · exact this
theorem dTo_step {n : Nat} {l : List UInt8} {k : Nat} (h0 : 0 < n) (h : n ≤ k) : (dTo n l k).set k (byte l k + dR n l (k - n)) = dTo n l (k + 1) := by
  apply List.ext_getElem
  · simp [dTo]
  · intro i h1 h2
    simp only [dTo, List.getElem_set, List.getElem_map, List.getElem_range]
    by_cases e : k = i
    · subst e; rw [if_pos rfl, if_pos (by omega), dR_hi h0 h]
    · rw [if_neg e]
      by_cases e2 : i < k
      · rw [if_pos e2, if_pos (by omega)]
      · rw [if_neg e2, if_neg (by omega)]
def dec (n : Nat) (l : List UInt8) : List UInt8 := dTo n l l.length
theorem dTo_all {n : Nat} {l : List UInt8} {k : Nat} (h : l.length ≤ k) : dTo n l k = dec n l := by
  apply List.ext_getElem
  · simp [dTo, dec]
  · intro i h1 h2
    have hi : i < l.length := by simpa [dTo] using h1
    simp only [dec, dTo, List.getElem_map, List.getElem_range]
    rw [if_pos (by omega), if_pos hi]
theorem wrap_add (x y : UInt8) : ((x.toNat : Int) + (y.toNat : Int)) % 256 = ((x + y).toNat : Int) := by
  rw [UInt8.toNat_add]; omega
def DecPost (w : World) (l : List UInt8) (e : Ending) (w' : World) : Prop := e = .returned (.tuple #[.string ⟨l.toArray⟩, .int .i64 0]) ∧ Below w.heap.size w w'
set_option maxHeartbeats 1000000 in
theorem rows_dec (n : Nat) (s : ByteArray) (w : World) (h0 : 0 < n) (hn : n ≤ 1024) (hs : s.size ≤ 1000000) :
    Calls Try.prog 49 #[.agg #[.int .i64 (n : Int)], .string s] w (DecPost w (dec n s.data.toList)) := by
  obtain ⟨cap, w1, hrun, hb, hlt, hrow⟩ := run_bytes (P := Try.prog) (w.alloc (.cells #[.int .i64 (n : Int)] 45)) 9 32 5 s Try.underlying9 Try.underlying32 Try.underlying5
  have hBx : Blk w1 w.heap.size 45 #[.int .i64 (n : Int)] := (Blk.new w 45 #[.int .i64 (n : Int)]).below hb (by simp)
  have hb1 : Below w.heap.size w w1 := ((Below.refl w.heap.size w).alloc (Nat.le_refl _) _).trans (hb.mono (by simp))
  have hg : (w.alloc (.cells #[.int .i64 (n : Int)] 45)).heap.size = w.heap.size + 1 := by simp
  rw [hg] at hrun hrow hlt
  have HRow := Lib.hid hrow
  have HBx := Lib.hid hBx
  have HB1 := Lib.hid hb1
  have hsz : s.data.toList.length = s.size := by simp
  generalize hl : s.data.toList = l at *
  have HL := Lib.hid hl
  generalize hm : s.size = m at *
  have HM := Lib.hid hm
  have HSz := Lib.hid hsz
  have x0 := hBx.cell 0
  have x1 := hBx.lt
  simp only [List.getElem?_toArray, List.getElem?_cons_zero] at x0
  clear hb hrow hBx hb1 hl hm hsz hg
  go_enter Try.func49, Try.ntmps49
  go_wp2
  clear hrun x0 x1
  go_loopw [7] (fun vi wr => ∃ k : Nat, n ≤ k ∧ (k ≤ m ∨ k = n) ∧ vi = .int .i64 (k : Int) ∧ BRow wr (w.heap.size + 1) (dTo n l k) ∧ Blk wr w.heap.size 45 #[.int .i64 (n : Int)] ∧ Below w.heap.size w wr) (fun i _ => m - (intOf i).toNat)
  case atStart => exact ⟨n, Nat.le_refl _, .inr rfl, rfl, by rw [dTo_start]; exact HRow.out, HBx.out, HB1.out⟩
  case round =>
    obtain ⟨k, hk0, hk1, rfl, hrow, hbx, hb⟩ := hrel
    have hdl := dTo_length n l k
    rw [HSz.out] at hdl
    by_cases hlt2 : k < m
    · have c1 := hrow.at_ (i := k) (by omega)
      have c2 := hrow.at_ (i := k - n) (by omega)
      have c3 := hrow.free_ (i := k) (by omega)
      have c4 := hrow.lt
      rw [dTo_at (by rw [HSz.out]; omega), if_neg (by omega)] at c1
      rw [dTo_at (by rw [HSz.out]; omega), if_pos (by omega)] at c2
      have x0 := hbx.cell 0
      have x1 := hbx.lt
      simp only [List.getElem?_toArray, List.getElem?_cons_zero] at x0
      have HR := Lib.hid hrow
      have HX := Lib.hid hbx
      have HB := Lib.hid hb
      have HSt := Lib.hid (dTo_step (l := l) h0 hk0)
      have HW := Lib.hid (wrap_add (byte l k) (dR n l (k - n)))
      have hu1 := (byte l k).toNat_lt
      have hu2 := (dR n l (k - n)).toNat_lt
      generalize byte l k = x at *
      generalize dR n l (k - n) = y at *
      have e1 : IntKind.i64.wrap ((k : Int) - (n : Int)) = (k : Int) - (n : Int) := IntWalk.i64_in _ (by omega)
      have e2 : 0 ≤ (k : Int) - (n : Int) := by omega
      have e3 : (n : Int) ≤ (k : Int) := by omega
      have e4 : ((k : Int) - (n : Int)).toNat = k - n := by omega
      have e5 : (k : Int) - (n : Int) < (m : Int) := by omega
      have e6 : (k : Int) < (m : Int) := by omega
      clear hrow hbx hb
      go_wp2
      go_region
      clear e1 e2 e3 e4 e5 e6 c1 c2 c3 c4
      go_wp2
      rw [HW.out]
      exact ⟨⟨k + 1, by omega, by omega, by go_num, by rw [← HSt.out]; exact (HR.out.put (by omega) _).drew, (HX.out.far (by simp) _).drew, (HB.out.setCell (by simp) _).drew⟩, by simp [intOf]; omega⟩
    · have hall : dTo n l k = dec n l := dTo_all (by rw [HSz.out]; omega)
      rw [hall] at hrow
      have hconv := run_convert_bytes_back (P := Try.prog) wr 32 9 5 ⟨w.heap.size + 1, 0, none⟩ cap (dec n l) Try.underlying32 Try.underlying5 Try.underlying9
        (fun j hj => by rw [add_plain, Nat.zero_add]; have := hrow.at_ hj; rw [List.getD_eq_getElem?_getD, List.getElem?_eq_getElem hj] at this; exact this)
      rw [show (dec n l).length = m by rw [dec, dTo_length, HSz.out]] at hconv
      have HB := Lib.hid hb
      clear hrow hbx hb hall
      go_wp2
      go_ret2
      exact ⟨rfl, HB.out⟩
end Go.Proofs.Ytdibgloaknnfgaa
