/- The walk of group: one to four bytes as characters. -/
import Derived.Test.YtdibgloaknnfgaaDecOne
import Derived.Laws.BitsAllLaws
import Derived.Deep.DeepCutAuto
namespace Go.Proofs.Ytdibgloaknnfgaa
open Go.RowKit
/-- The first i of four bytes as a number, what lacks being 0. -/
def vTo (l : List UInt8) : Nat → Nat
  | 0 => 0
  | i + 1 => vTo l i * 256 + (if i < l.length then (byte l i).toNat else 0)
theorem vTo_lt (l : List UInt8) (i : Nat) : vTo l i < 256 ^ i := by
  induction i with
  | zero => simp [vTo]
  | succ i ih =>
    have h : (if i < l.length then (byte l i).toNat else 0) < 256 := by split; exact UInt8.toNat_lt _; omega
    simp only [vTo, Nat.pow_succ]
    omega
theorem sbyte (s : ByteArray) (i : Nat) (h : i < s.size) : s[i] = byte s.data.toList i := by
  have h2 : i < s.data.toList.length := by simpa using h
  rw [byte, List.getD_eq_getElem?_getD, List.getElem?_eq_getElem h2]; rfl
theorem or_add (v x : Nat) (hv : v < 16777216) (hx : x < 256) : bits .or .u32 ((v : Int) * 256) ((x : Int) % 4294967296) = ((v * 256 + x : Nat) : Int) := by
  rw [show ((x : Int) % 4294967296) = (x : Int) by omega, show ((v : Int) * 256) = ((v * 256 : Nat) : Int) by omega, u32_or_nat _ _ (by omega) (by omega)]
  rw [nat_join 8 (v * 256) x (by omega) (by omega)]
def dg (V i : Nat) : Nat := 33 + V / 85 ^ (4 - i) % 85
theorem dg_lt (V i : Nat) : dg V i < 118 := by unfold dg; omega
/-- The five characters, the first k of which are not yet written. -/
def gCells (V k : Nat) : List Value := (List.range 5).map fun j => Value.int .u8 (if k ≤ j then (dg V j : Int) else 0)
theorem gCells_set (V k : Nat) : (gCells V (k + 1)).set k (.int .u8 (dg V k : Int)) = gCells V k := by
  apply List.ext_getElem
  · simp [gCells]
  · intro i h1 h2
    simp only [gCells, List.getElem_set, List.getElem_map, List.getElem_range]
    by_cases e : k = i
    · subst e; rw [if_pos rfl, if_pos (Nat.le_refl _)]
    · rw [if_neg e]
      by_cases e2 : k + 1 ≤ i
      · rw [if_pos e2, if_pos (by omega)]
      · rw [if_neg e2, if_neg (by omega)]
def grp (l : List UInt8) : List UInt8 := if vTo l 4 = 0 ∧ l.length = 4 then [122] else (List.range (l.length + 1)).map fun i => UInt8.ofNat (dg (vTo l 4) i)
theorem pow_split (V k : Nat) (hk : k < 5) : V / 85 ^ (5 - (k + 1)) / 85 = V / 85 ^ (5 - k) := by
  rw [Nat.div_div_eq_div_mul, show 5 - k = (5 - (k + 1)) + 1 by omega, Nat.pow_succ]
theorem run_arr (g k : Nat) (c : Int) (hc : c = (k : Int)) (hk : k ≤ 5) (w : World) : (Instr.sliceAt 91 (.pointer (some ⟨g, 0, none⟩)) none (some (.int .i64 c)) none).run Try.prog w = .ok (.slice (some ⟨g, 0, none⟩) k 5) w := by
  subst hc
  have hu : (underlying 91).run Try.prog w = .ok (.array 5 5) w := by kernel_rfl
  have hs : (sizeOf 5).run Try.prog w = .ok 1 w := by kernel_rfl
  simp [Instr.sliceAt, Instr.sureAddr, hu, hs, Instr.sliceBounds, Instr.sliceBound, asIntOf, hk, Addr.add]
set_option maxHeartbeats 1000000 in
theorem group_any (s : ByteArray) (w : World) (h0 : 1 ≤ s.size) (h1 : s.size ≤ 4) :
    Calls Try.prog 59 #[.string s] w fun e w' => e = .returned (.string ⟨(grp s.data.toList).toArray⟩) ∧ Below w.heap.size w w' := by
  go_enter Try.func59, Try.ntmps59
  go_wp2
  go_loop [3, 7] (fun vv vi => ∃ i : Nat, i ≤ 4 ∧ vi = .int .i64 i ∧ vv = .int .u32 (vTo s.data.toList i)) (fun _ i => 4 - (intOf i).toNat)
  case atStart => exact ⟨0, by omega, rfl, rfl⟩
  case round =>
    obtain ⟨i, hi, rfl, rfl⟩ := hrel
    have hv := vTo_lt s.data.toList i
    have HS : Hid (vTo s.data.toList (i + 1) = vTo s.data.toList i * 256 + (if i < s.data.toList.length then (byte s.data.toList i).toNat else 0)) := rfl
    by_cases hi4 : i < 4
    · have hv2 : vTo s.data.toList i < 16777216 := Nat.lt_of_lt_of_le hv (Nat.pow_le_pow_right (by omega) (show i ≤ 3 by omega))
      by_cases his : i < s.size
      · have HB : Hid (s[i]'his = byte s.data.toList i) := sbyte s i his
        have HL : Hid (i < s.data.toList.length) := by unfold Hid; simpa using his
        go_wp2
        refine ⟨⟨i + 1, by omega, by go_num, ?_⟩, by simp [intOf]; omega⟩
        rw [HS.out, if_pos HL.out, HB.out]
        exact valInt (or_add _ _ hv2 (UInt8.toNat_lt _))
      · have HL : Hid (¬ i < s.data.toList.length) := by unfold Hid; simpa using his
        go_wp2
        refine ⟨⟨i + 1, by omega, by go_num, ?_⟩, by simp [intOf]; omega⟩
        rw [HS.out, if_neg HL.out]
        exact valInt (by omega)
    · obtain rfl : i = 4 := by omega
      have hv2 : vTo s.data.toList 4 < 4294967296 := hv
      have hsz : s.data.toList.length = s.size := by simp
      have HG : Hid (grp s.data.toList = if vTo s.data.toList 4 = 0 ∧ s.data.toList.length = 4 then [122] else (List.range (s.data.toList.length + 1)).map fun i => UInt8.ofNat (dg (vTo s.data.toList 4) i)) := rfl
      rw [hsz] at HG
      clear hv hsz HS
      generalize vTo s.data.toList 4 = V at *
      have hb1 := (Below.refl w.heap.size w).alloc (Nat.le_refl _) (Obj.cells (gCells V 5).toArray 91)
      have HB1 := Lib.hid hb1
      have HBk := Lib.hid (Blk.new w 91 (gCells V 5).toArray)
      have hg5 : (gCells V 5).toArray = #[.int .u8 0, .int .u8 0, .int .u8 0, .int .u8 0, .int .u8 0] := rfl
      rw [hg5] at HBk HB1
      have HBk2 : Hid (Blk (w.alloc (.cells #[.int .u8 0, .int .u8 0, .int .u8 0, .int .u8 0, .int .u8 0] 91)) w.heap.size 91 (gCells V 5).toArray) := by rw [hg5]; exact HBk.out
      clear hg5 hb1 HBk
      by_cases hz : V = 0 ∧ s.size = 4
      · have HG2 := HG.out
        rw [if_pos hz] at HG2
        have HG3 := Lib.hid HG2
        obtain ⟨hz1, hz2⟩ := hz
        subst hz1
        clear HG2
        go_wp2
        go_ret
        exact ⟨by rw [HG3.out]; rfl, Below.refl _ _⟩
      · have HG2 := HG.out
        rw [if_neg hz] at HG2
        have HG3 := Lib.hid HG2
        clear HG2 HG
        have hq : (V == 0 && s.size == 4) = false := by
          rw [Bool.and_eq_false_iff, beq_eq_false_iff_ne, beq_eq_false_iff_ne]; omega
        have HZ := Lib.hid hz
        clear hz
        go_upto_region 9 with (fail)
        go_cut [29] (fun s29 wx => s29 = .bool false ∧ wx = w)
        case first =>
          by_cases hV : V = 0
          · have hs4 : ((s.size : Int) == 4) = false := by rw [beq_eq_false_iff_ne]; have := HZ.out; omega
            subst hV
            go_wp2
            all_goals
              go_meet
              exact ⟨rfl, rfl⟩
          · have hV0 : ((V : Int) == 0) = false := by rw [beq_eq_false_iff_ne]; omega
            go_wp2
            all_goals
              go_meet
              exact ⟨rfl, rfl⟩
        case rest =>
          obtain ⟨rfl, rfl⟩ := hcut
          go_wp2
          go_loopw [3, 6] (fun vv vi wr => ∃ k : Nat, k ≤ 5 ∧ vi = .int .i64 ((k : Int) - 1) ∧ vv = .int .u32 ((V / 85 ^ (5 - k) : Nat) : Int) ∧ Blk wr wc.heap.size 91 (gCells V k).toArray ∧ Below wc.heap.size wc wr) (fun _ i _ => (intOf i + 1).toNat)
          case atStart => exact ⟨5, by omega, rfl, by simp, HBk2.out, HB1.out⟩
          case round =>
            obtain ⟨k, hk, rfl, rfl, hB, hb⟩ := hrel
            by_cases hk0 : k = 0
            · subst hk0
              have hl : ((List.range (s.size + 1)).map fun i => UInt8.ofNat (dg V i)).length = s.size + 1 := by simp
              have hconv := run_convert_bytes_back (P := Try.prog) wr 32 9 5 ⟨wc.heap.size, 0, none⟩ 5 ((List.range (s.size + 1)).map fun i => UInt8.ofNat (dg V i)) Try.underlying32 Try.underlying5 Try.underlying9
                (fun j hj => by
                  have hj5 : j < s.size + 1 := by rw [hl] at hj; exact hj
                  rw [add_plain, Nat.zero_add, hB.cell j]
                  have hd := dg_lt V j
                  simp [gCells, List.getElem?_range (show j < 5 by omega)]
                  omega)
              rw [hl] at hconv
              have HBb := Lib.hid hb
              have hsl := run_arr wc.heap.size (s.size + 1) ((s.size : Int) + 1) (by omega) (by omega)
              clear hB hb hl
              go_wp2
              go_ret
              exact ⟨by rw [HG3.out, List.range_succ, List.map_append]; rfl, HBb.out⟩
            · obtain ⟨j, rfl⟩ : ∃ j, k = j + 1 := ⟨k - 1, by omega⟩
              rw [show ((j + 1 : Nat) : Int) - 1 = (j : Int) by omega]
              have HSp := Lib.hid (pow_split V j (by omega))
              have HD : Hid (dg V j = 33 + V / 85 ^ (5 - (j + 1)) % 85) := by unfold Hid dg; rw [show 5 - (j + 1) = 4 - j by omega]
              have hX : V / 85 ^ (5 - (j + 1)) < 4294967296 := Nat.lt_of_le_of_lt (Nat.div_le_self _ _) hv2
              have hj5 : j < 5 := by omega
              have c1 := hB.cell j
              have c2 := hB.frozen j
              have c3 := hB.lt
              have hc : (gCells V (j + 1)).toArray[j]? = some (.int .u8 0) := by simp [gCells, hj5]; omega
              rw [hc] at c1
              have HB := Lib.hid hB
              have HBb := Lib.hid hb
              have HSt := Lib.hid (gCells_set V j)
              generalize V / 85 ^ (5 - (j + 1)) = X at *
              clear hB hb hc
              go_wp2
              refine ⟨⟨j, by omega, rfl, valInt (by rw [← HSp.out]; first | rfl | omega), ?_, HBb.out.setCell (Nat.le_refl _) _⟩, by simp [intOf]⟩
              have h2 := HB.out.put j (.int .u8 (dg V j : Int))
              rw [List.setIfInBounds_toArray, HSt.out] at h2
              rw [show (33 + (X : Int) % 85) = (dg V j : Int) by rw [HD.out]; omega]
              exact h2
end Go.Proofs.Ytdibgloaknnfgaa
