/- The walk of rows.encode; decoding undoes it. -/
import Derived.Test.YtdibgloaknnfgaaFltRunD
namespace Go.Proofs.Ytdibgloaknnfgaa
open Go.RowKit
/-- Bytes of which those from place k on are differences to the ones n places before. -/
def eTo (n : Nat) (l : List UInt8) (k : Nat) : List UInt8 := (List.range l.length).map fun i => if k ≤ i ∧ n ≤ i then byte l i - byte l (i - n) else byte l i
theorem eTo_length (n : Nat) (l : List UInt8) (k : Nat) : (eTo n l k).length = l.length := by simp [eTo]
theorem eTo_at {n : Nat} {l : List UInt8} {k i : Nat} (h : i < l.length) : (eTo n l k).getD i 0 = if k ≤ i ∧ n ≤ i then byte l i - byte l (i - n) else byte l i := by simp [eTo, List.getD_eq_getElem?_getD, h]
theorem eTo_start (n : Nat) (l : List UInt8) : eTo n l l.length = l := by
  apply List.ext_getElem
  · simp [eTo]
  · intro i h1 h2
    simp only [eTo, List.getElem_map, List.getElem_range]
    rw [if_neg (by omega)]
    simp [byte, List.getD_eq_getElem?_getD, h2]
theorem eTo_step {n : Nat} {l : List UInt8} {q : Nat} (h : n ≤ q) : (eTo n l (q + 1)).set q (byte l q - byte l (q - n)) = eTo n l q := by
  apply List.ext_getElem
  · simp [eTo]
  · intro i h1 h2
    simp only [eTo, List.getElem_set, List.getElem_map, List.getElem_range]
    by_cases e : q = i
    · subst e; rw [if_pos rfl, if_pos ⟨Nat.le_refl _, h⟩]
    · rw [if_neg e]
      by_cases e2 : q < i ∧ n ≤ i
      · rw [if_pos (by omega), if_pos (by omega)]
      · rw [if_neg (by omega), if_neg (by omega)]
def encD (n : Nat) (l : List UInt8) : List UInt8 := eTo n l n
theorem eTo_all {n : Nat} {l : List UInt8} {k : Nat} (h : k ≤ n) : eTo n l k = encD n l := by
  apply List.ext_getElem
  · simp [eTo, encD]
  · intro i h1 h2
    simp only [encD, eTo, List.getElem_map, List.getElem_range]
    by_cases e : n ≤ i
    · rw [if_pos (by omega), if_pos (by omega)]
    · rw [if_neg (by omega), if_neg (by omega)]
theorem eTo_short {n : Nat} {l : List UInt8} (h : l.length ≤ n) : eTo n l l.length = encD n l := by
  rw [eTo_start, encD]
  apply List.ext_getElem
  · simp [eTo]
  · intro i h1 h2
    simp only [eTo, List.getElem_map, List.getElem_range]
    rw [if_neg (by omega)]
    simp [byte, List.getD_eq_getElem?_getD, h1]
theorem encD_length (n : Nat) (l : List UInt8) : (encD n l).length = l.length := by simp [encD, eTo_length]
theorem dR_encD {n : Nat} {l : List UInt8} (h0 : 0 < n) : ∀ i, i < l.length → dR n (encD n l) i = byte l i := by
  intro i
  induction i using Nat.strongRecOn with
  | ind i ih =>
    intro hi
    have hb : byte (encD n l) i = if n ≤ i then byte l i - byte l (i - n) else byte l i := by
      show (eTo n l n).getD i 0 = _
      rw [eTo_at hi]
      by_cases e : n ≤ i
      · rw [if_pos ⟨e, e⟩, if_pos e]
      · rw [if_neg (by omega), if_neg e]
    by_cases e : n ≤ i
    · rw [dR_hi h0 e, ih (i - n) (by omega) (by omega), hb, if_pos e]
      exact UInt8.sub_add_cancel _ _
    · rw [dR_lo (by omega), hb, if_neg e]
theorem dec_encD {n : Nat} {l : List UInt8} (h0 : 0 < n) : dec n (encD n l) = l := by
  apply List.ext_getElem
  · simp [dec, dTo, encD, eTo]
  · intro i h1 h2
    simp only [dec, dTo, List.getElem_map, List.getElem_range]
    rw [if_pos (by rw [encD_length]; exact h2), dR_encD h0 i h2]
    simp [byte, List.getD_eq_getElem?_getD, h2]
theorem wrap_sub (x y : UInt8) : ((x.toNat : Int) - (y.toNat : Int)) % 256 = ((x - y).toNat : Int) := by
  rw [UInt8.toNat_sub]; have := x.toNat_lt; have := y.toNat_lt; omega
set_option maxHeartbeats 1000000 in
theorem rows_enc (n : Nat) (s : ByteArray) (w : World) (h0 : 0 < n) (hn : n ≤ 1024) (hs : s.size ≤ 1000000) :
    Calls Try.prog 50 #[.agg #[.int .i64 (n : Int)], .string s] w fun e w' => e = .returned (.string ⟨(encD n s.data.toList).toArray⟩) ∧ Below w.heap.size w w' := by
  obtain ⟨cap, w1, hrun, hb, hlt, hrow⟩ := run_bytes (P := Try.prog) (w.alloc (.cells #[.int .i64 (n : Int)] 45)) 9 32 5 s Try.underlying9 Try.underlying32 Try.underlying5
  have hBx : Blk w1 w.heap.size 45 #[.int .i64 (n : Int)] := (Blk.new w 45 #[.int .i64 (n : Int)]).below hb (by simp)
  have hb1 : Below w.heap.size w w1 := ((Below.refl w.heap.size w).alloc (Nat.le_refl _) _).trans (hb.mono (by simp))
  have hg : (w.alloc (.cells #[.int .i64 (n : Int)] 45)).heap.size = w.heap.size + 1 := by simp
  rw [hg] at hrun hrow hlt
  have HRow := Lib.hid hrow
  have HBx := Lib.hid hBx
  have HB1 := Lib.hid hb1
  have hsz : s.data.toList.length = s.size := by simp
  generalize hl : s.data.toList = l at *
  have HL := Lib.hid hl
  generalize hm : s.size = m at *
  have HM := Lib.hid hm
  have HSz := Lib.hid hsz
  have x0 := hBx.cell 0
  have x1 := hBx.lt
  simp only [List.getElem?_toArray, List.getElem?_cons_zero] at x0
  clear hb hrow hBx hb1 hl hm hsz hg
  go_enter Try.func50, Try.ntmps50
  go_wp2
  clear hrun x0 x1
  go_loopw [6] (fun vi wr => ∃ k : Nat, k ≤ m ∧ (n ≤ k ∨ k = m) ∧ vi = .int .i64 ((k : Int) - 1) ∧ BRow wr (w.heap.size + 1) (eTo n l k) ∧ Blk wr w.heap.size 45 #[.int .i64 (n : Int)] ∧ Below w.heap.size w wr) (fun i _ => (intOf i + 1).toNat)
  case atStart => exact ⟨m, Nat.le_refl _, .inr rfl, rfl, by rw [← HSz.out, eTo_start]; exact HRow.out, HBx.out, HB1.out⟩
  case round =>
    obtain ⟨k, hk0, hk1, rfl, hrow, hbx, hb⟩ := hrel
    by_cases hlt2 : n < k
    · obtain ⟨q, rfl⟩ : ∃ q, k = q + 1 := ⟨k - 1, by omega⟩
      have hdl := eTo_length n l (q + 1)
      rw [HSz.out] at hdl
      rw [show ((q + 1 : Nat) : Int) - 1 = (q : Int) by omega]
      have c1 := hrow.at_ (i := q) (by omega)
      have c2 := hrow.at_ (i := q - n) (by omega)
      have c3 := hrow.free_ (i := q) (by omega)
      have c4 := hrow.lt
      rw [eTo_at (by rw [HSz.out]; omega), if_neg (by omega)] at c1
      rw [eTo_at (by rw [HSz.out]; omega), if_neg (by omega)] at c2
      have x0 := hbx.cell 0
      have x1 := hbx.lt
      simp only [List.getElem?_toArray, List.getElem?_cons_zero] at x0
      have HR := Lib.hid hrow
      have HX := Lib.hid hbx
      have HB := Lib.hid hb
      have HSt := Lib.hid (eTo_step (l := l) (n := n) (q := q) (by omega))
      have HW := Lib.hid (wrap_sub (byte l q) (byte l (q - n)))
      have hu1 := (byte l q).toNat_lt
      have hu2 := (byte l (q - n)).toNat_lt
      generalize byte l q = x at *
      generalize byte l (q - n) = y at *
      have e1 : IntKind.i64.wrap ((q : Int) - (n : Int)) = (q : Int) - (n : Int) := IntWalk.i64_in _ (by omega)
      have e2 : 0 ≤ (q : Int) - (n : Int) := by omega
      have e3 : (n : Int) ≤ (q : Int) := by omega
      have e4 : ((q : Int) - (n : Int)).toNat = q - n := by omega
      have e5 : (q : Int) - (n : Int) < (m : Int) := by omega
      have e6 : (q : Int) < (m : Int) := by omega
      clear hrow hbx hb
      go_wp2
      go_region
      clear e1 e2 e3 e4 e5 e6 c1 c2 c3 c4
      go_wp2
      rw [HW.out]
      exact ⟨⟨q, by omega, by omega, rfl, by rw [← HSt.out]; exact (HR.out.put (by omega) _).drew, (HX.out.far (by simp) _).drew, (HB.out.setCell (by simp) _).drew⟩, by simp [intOf]⟩
    · have hall : eTo n l k = encD n l := by
        rcases Nat.lt_or_ge n k with h | h
        · omega
        · rcases hk1 with h2 | h2
          · exact eTo_all h
          · rw [h2, ← HSz.out]; exact eTo_short (by rw [HSz.out]; omega)
      rw [hall] at hrow
      have hconv := run_convert_bytes_back (P := Try.prog) wr 32 9 5 ⟨w.heap.size + 1, 0, none⟩ cap (encD n l) Try.underlying32 Try.underlying5 Try.underlying9
        (fun j hj => by rw [add_plain, Nat.zero_add]; have := hrow.at_ hj; rw [List.getD_eq_getElem?_getD, List.getElem?_eq_getElem hj] at this; exact this)
      rw [show (encD n l).length = m by rw [encD_length, HSz.out]] at hconv
      have x0 := hbx.cell 0
      have x1 := hbx.lt
      simp only [List.getElem?_toArray, List.getElem?_cons_zero] at x0
      have HB := Lib.hid hb
      have g : decide ((k : Int) - 1 ≥ (n : Int)) = false := by simp; omega
      clear hrow hbx hb hall
      go_wp2
      go_ret
      exact ⟨rfl, HB.out⟩
end Go.Proofs.Ytdibgloaknnfgaa
