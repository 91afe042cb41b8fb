/- The walk of Verify at digits. -/
import Derived.Test.YtcbnelklilamgaaDoorNumNumber
import Derived.Laws.RangeString
namespace Go.Proofs.YtcbnelklilamgaaDoor
open Go.RowKit Num Go.Lib Go.Joins
def notDig (r : Nat) : Bool := decide (r < 48) || decide (57 < r)
theorem isNot (w : World) : PredAt Tryd.prog 30 #[] encR notDig w := fun W r _ => by
  unfold FnGives notDig
  by_cases h1 : r < 48 <;> by_cases h2 : 57 < r
  all_goals
    have z1 : (r : Int) < 48 ↔ r < 48 := by omega
    have z2 : (57 : Int) < (r : Int) ↔ 57 < r := by omega
    go_enter Tryd.func30, Tryd.ntmps30
    go_wp2
    all_goals first | (exfalso; omega) | (go_ret; exact ⟨by simp [h1, h2], 0, rfl⟩)
theorem idx_digs (s : ByteArray) (hd : Digs s.data.toList) : ∀ f pos, idxFuncFrom notDig true s f pos = -1
  | 0, _ => rfl
  | f + 1, pos => by
    unfold idxFuncFrom
    split
    · rename_i h
      have hc := dig_at hd pos h
      rw [decode_ascii s pos h (by omega)]
      rw [if_neg (by unfold notDig; simp; omega)]
      exact idx_digs s hd f _
    · rfl
theorem contains_digs (s : ByteArray) (hd : Digs s.data.toList) (w : World) : Calls Tryd.prog 29 #[.string s, .func (.func 30) #[] #[]] w fun e w' => e = .returned (.bool false) ∧ Below w.heap.size w w' :=
  (strings_ContainsFunc 30 #[] (enters_of Tryd.func30 (by kernel_rfl) rfl) notDig s w (isNot w)).mono fun e w' ⟨a, b⟩ => ⟨by
    rw [a]; unfold idxFunc; rw [idx_digs s hd]; rfl, b⟩
theorem B_take (l : List UInt8) (k : Nat) : (B l).extract 0 k = B (l.take k) := by
  apply ByteArray.ext
  simp [B, ByteArray.data_extract]
theorem atoi_any (l : List UInt8) (hd : Digs l) (h0 : l ≠ []) (h : l.length ≤ 18) (w : World) :
    Calls Tryd.prog 31 #[.string (B l)] w fun e w' => e = .returned (.tuple #[.int .i64 (val l : Nat), .nilIface]) ∧ Below w.heap.size w w' :=
  (strconv_Atoi (B l) (val l : Nat) (by rw [B_size]; exact h) (by rw [B_data]; exact atoi_val l hd h0) w).mono fun e w' ⟨a, t, b⟩ => ⟨a, by rw [b]; exact below_bytesWorld _ w 5 t (Nat.le_refl _)⟩
theorem number_int (d n : Nat) (z : Int) (hz : z = d) (w : World) (hT : Tab10 w) (h1 : 1 ≤ d) (h2 : d ≤ 12) (hn : n < 10 ^ d) :
    Calls Tryd.prog 17 #[.int .i64 n, .int .i64 z] w fun e w' => e = .returned (.tuple #[.string (B (numbered d n)), .int .i64 0]) ∧ Below w.heap.size w w' := by
  subst hz; exact number_ok d n w hT h1 h2 hn
theorem beq_B (a b : List UInt8) : ((B a).toList == (B b).toList) = decide (a = b) := by
  rw [Lib.toList_data, Lib.toList_data, B_data, B_data, Bool.eq_iff_iff, beq_iff_eq, decide_eq_true_iff]
/-- Verify's answer at digits. -/
theorem verify_any (l : List UInt8) (hd : Digs l) (h3 : 3 ≤ l.length) (h14 : l.length ≤ 14) (w : World) (hT : Tab10 w) :
    Calls Tryd.prog 15 #[.string (B l)] w fun e w' => e = .returned (.tuple #[.int .i64 (if good l then (val (l.take (l.length - 2)) : Nat) else 0 : Int), .int .i64 (if good l then 0 else 11)]) ∧ Below w.heap.size w w' := by
  obtain ⟨k, hk⟩ : ∃ k, k = l.length - 2 := ⟨_, rfl⟩
  have hlen : l.length = k + 2 := by omega
  have htl : (l.take k).length = k := by rw [List.length_take]; omega
  have htd : Digs (l.take k) := fun c hc => hd c (List.mem_of_mem_take hc)
  have hvl : val (l.take k) < 10 ^ k := by have := val_lt htd; rwa [htl] at this
  have HA : Hid (∀ w, Calls Tryd.prog 31 #[.string (B (l.take k))] w fun e w' => e = .returned (.tuple #[.int .i64 (val (l.take k) : Nat), .nilIface]) ∧ Below w.heap.size w w') := fun w => atoi_any _ htd (fun e => by rw [e] at htl; simp at htl; omega) (by omega) w
  have HCo : Hid (∀ w, Calls Tryd.prog 29 #[.string (B l), .func (.func 30) #[] #[]] w fun e w' => e = .returned (.bool false) ∧ Below w.heap.size w w') := fun w => contains_digs (B l) (by rw [B_data]; exact hd) w
  have HT := Lib.hid hT
  have hg : good l = decide (numbered k (val (l.take k)) = l) := by unfold good; rw [hk]
  rw [← hk]
  have HG := Lib.hid hg
  clear hg
  have htk := B_take l k
  have hq := beq_B (numbered k (val (l.take k))) l
  have hsz : (B l).size = k + 2 := by rw [B_size, hlen]
  have HV : Hid (val (l.take k) < 10 ^ k) := hvl
  have hk1 : 1 ≤ k ∧ k ≤ 12 := by omega
  obtain ⟨hk1, hk2⟩ := hk1
  clear hT hd hk htl htd hvl h3 h14 hlen
  generalize val (l.take k) = v at *
  generalize hz1 : (if good l then (v : Int) else 0) = z1
  generalize hz2 : (if good l then (0 : Int) else 11) = z2
  have HZ1 := Lib.hid hz1
  have HZ2 := Lib.hid hz2
  clear hz1 hz2
  go_enter Tryd.func15, Tryd.ntmps15
  go_wp2_with fail
  refine (HCo.out _).mono ?_; rintro e w1 ⟨rfl, hb1⟩
  have HB1 := Lib.hid hb1
  clear hb1
  go_wp2_with fail
  refine (HA.out _).mono ?_; rintro e w2 ⟨rfl, hb2⟩
  have HB2 := Lib.hid (HB1.out.trans (hb2.mono HB1.out.size))
  clear hb2
  go_wp2_with fail
  refine (number_int k v _ (by omega) _ (HT.out.later HB2.out) hk1 hk2 HV.out).mono ?_; rintro e w3 ⟨rfl, hb3⟩
  have HB3 := Lib.hid (HB2.out.trans (hb3.mono HB2.out.size))
  clear hb3
  by_cases hE : numbered k v = l
  · have HF : Hid (decide (numbered k v = l) = true) := decide_eq_true hE
    have HW := Lib.hid (HG.out.trans HF.out)
    rw [HF.out] at hq
    clear hE
    go_wp2
    go_ret2
    refine ⟨?_, HB3.out⟩
    rw [← HZ1.out, ← HZ2.out, HW.out]
    rfl
  · have HF : Hid (decide (numbered k v = l) = false) := decide_eq_false hE
    have HW := Lib.hid (HG.out.trans HF.out)
    rw [HF.out] at hq
    clear hE
    go_wp2
    go_ret2
    refine ⟨?_, HB3.out⟩
    rw [← HZ1.out, ← HZ2.out, HW.out]
    rfl
end Go.Proofs.YtcbnelklilamgaaDoor
