/- The walk of ungroup: two to five characters as bytes. -/
import Derived.Test.YtdibgloaknnfgaaGroup
namespace Go.Proofs.Ytdibgloaknnfgaa
open Go.RowKit
def okc (c : UInt8) : Bool := decide (33 ≤ c.toNat ∧ c.toNat ≤ 117)
/-- The first i of five characters as a number, what lacks being 84. -/
def uTo (l : List UInt8) : Nat → Nat
  | 0 => 0
  | i + 1 => uTo l i * 85 + (if i < l.length then (byte l i).toNat - 33 else 84)
def b4 (V : Nat) : List UInt8 := [UInt8.ofNat (V / 16777216), UInt8.ofNat (V / 65536), UInt8.ofNat (V / 256), UInt8.ofNat V]
def ungR (l : List UInt8) : List UInt8 × Int :=
  if l.all okc = false then ([], 5) else if l.length = 1 then ([], 12) else if 4294967296 ≤ uTo l 5 then ([], 3)
  else if grp ((b4 (uTo l 5)).take (l.length - 1)) = l then ((b4 (uTo l 5)).take (l.length - 1), 0) else ([], 4)
theorem all_of {l : List UInt8} (h : ∀ i, i < l.length → okc (byte l i) = true) : l.all okc = true := by
  rw [List.all_eq_true]
  intro x hx
  obtain ⟨i, hi, e⟩ := List.getElem_of_mem hx
  have := h i hi
  rwa [byte, List.getD_eq_getElem?_getD, List.getElem?_eq_getElem hi, Option.getD_some, e] at this
theorem not_all {l : List UInt8} {i : Nat} (hi : i < l.length) (h : okc (byte l i) = false) : l.all okc = false := by
  rw [List.all_eq_false]
  refine ⟨byte l i, ?_, by simp [h]⟩
  rw [byte, List.getD_eq_getElem?_getD, List.getElem?_eq_getElem hi]; exact List.getElem_mem hi
theorem uTo_lt {l : List UInt8} (i : Nat) (h : ∀ j, j < i → j < l.length → okc (byte l j) = true) : uTo l i < 85 ^ i := by
  induction i with
  | zero => simp [uTo]
  | succ i ih =>
    have hh : (if i < l.length then (byte l i).toNat - 33 else 84) < 85 := by
      split
      · rename_i hi; have := h i (by omega) hi; simp only [okc, decide_eq_true_eq] at this; omega
      · omega
    have := ih fun j hj => h j (by omega)
    simp only [uTo, Nat.pow_succ]
    omega
def UngPost (w : World) (r : List UInt8 × Int) (e : Ending) (w' : World) : Prop := e = .returned (.tuple #[.string ⟨r.1.toArray⟩, .int .i64 r.2]) ∧ Below w.heap.size w w'
set_option maxHeartbeats 2000000 in
theorem ungroup_any (s : ByteArray) (w : World) (h0 : 1 ≤ s.size) (h1 : s.size ≤ 5) :
    Calls Try.prog 58 #[.string s] w (UngPost w (ungR s.data.toList)) := by
  have hsz : s.data.toList.length = s.size := by simp
  have HP : Hid (∀ w', Below w.heap.size w w' → ∀ r, ungR s.data.toList = r → UngPost w (ungR s.data.toList) (.returned (.tuple #[.string ⟨r.1.toArray⟩, .int .i64 r.2])) w') := fun w' hb r h => by rw [h]; exact ⟨rfl, hb⟩
  generalize hPo : UngPost w (ungR s.data.toList) = Post at *
  have HSz := Lib.hid hsz
  clear hsz hPo
  go_enter Try.func58, Try.ntmps58
  go_wp2
  go_loop [4, 8] (fun vv vi => ∃ i : Nat, i ≤ 5 ∧ vi = .int .i64 i ∧ vv = .int .u64 (uTo s.data.toList i) ∧ ∀ j, j < i → j < s.data.toList.length → okc (byte s.data.toList j) = true) (fun _ i => 5 - (intOf i).toNat)
  case atStart => exact ⟨0, by omega, rfl, rfl, fun j hj => by omega⟩
  case round =>
    obtain ⟨i, hi, rfl, rfl, hok⟩ := hrel
    have HOk := Lib.hid hok
    have HS : Hid (uTo s.data.toList (i + 1) = uTo s.data.toList i * 85 + (if i < s.data.toList.length then (byte s.data.toList i).toNat - 33 else 84)) := rfl
    clear hok
    by_cases hi5 : i < 5
    · have hb : Hid (uTo s.data.toList i < 4437053125) := Nat.lt_of_lt_of_le (uTo_lt i HOk.out) (Nat.le_trans (Nat.pow_le_pow_right (by omega) hi) (by decide))
      have hb2 := hb.out
      by_cases his : i < s.size
      · have HB : Hid (s[i]'his = byte s.data.toList i) := sbyte s i his
        have HL : Hid (i < s.data.toList.length) := by unfold Hid; rw [HSz.out]; exact his
        by_cases hc : okc (byte s.data.toList i) = true
        · have hc2 : 33 ≤ (s[i]'his).toNat ∧ (s[i]'his).toNat ≤ 117 := by rw [HB.out]; simpa [okc] using hc
          have HC := Lib.hid hc
          clear hc
          obtain ⟨c1, c2⟩ := hc2
          go_wp2
          refine ⟨⟨i + 1, by omega, by go_num, valInt ?_, fun j hj hjl => ?_⟩, by simp [intOf]; omega⟩
          · rw [HS.out, if_pos HL.out, HB.out]; rw [HB.out] at c1; omega
          · rcases Nat.lt_or_ge j i with h | h
            · exact HOk.out j h hjl
            · rw [show j = i by omega]; exact HC.out
        · have hc' : okc (byte s.data.toList i) = false := by simpa using hc
          have hr : ungR s.data.toList = ([], 5) := by unfold ungR; rw [if_pos (not_all HL.out hc')]
          have HR := Lib.hid hr
          have hc2 : (s[i]'his).toNat < 33 ∨ 117 < (s[i]'his).toNat := by rw [HB.out]; simp [okc] at hc'; omega
          clear hc hc' hr
          rcases hc2 with c1 | c1
          · go_wp2
            exact HP.out _ (Below.refl _ _) _ HR.out
          · have c2 : ¬ (s[i]'his).toNat < 33 := by omega
            go_wp2
            exact HP.out _ (Below.refl _ _) _ HR.out
      · have HL : Hid (¬ i < s.data.toList.length) := by unfold Hid; rw [HSz.out]; exact his
        go_wp2
        refine ⟨⟨i + 1, by omega, by go_num, valInt ?_, fun j hj hjl => ?_⟩, by simp [intOf]; omega⟩
        · rw [HS.out, if_neg HL.out]; omega
        · rcases Nat.lt_or_ge j i with h | h
          · exact HOk.out j h hjl
          · rw [show j = i by omega] at hjl; exact absurd hjl HL.out
    · obtain rfl : i = 5 := by omega
      have hall : s.data.toList.all okc = true := all_of fun j hj => HOk.out j (by have := HSz.out; omega) hj
      have hb : uTo s.data.toList 5 < 4437053125 := uTo_lt 5 HOk.out
      have hR : Hid (ungR s.data.toList = if s.size = 1 then ([], 12) else if 4294967296 ≤ uTo s.data.toList 5 then ([], 3)
          else if grp ((b4 (uTo s.data.toList 5)).take (s.size - 1)) = s.data.toList then ((b4 (uTo s.data.toList 5)).take (s.size - 1), 0) else ([], 4)) := by
        unfold Hid ungR; rw [if_neg (by rw [hall]; simp), HSz.out]
      clear HS hall
      generalize uTo s.data.toList 5 = V at *
      by_cases hs1 : s.size = 1
      · have HR := hR.out
        rw [if_pos hs1] at HR
        have HR := Lib.hid HR
        go_wp2
        exact HP.out _ (Below.refl _ _) _ HR.out
      · by_cases hV : 4294967296 ≤ V
        · have HR := hR.out
          rw [if_neg hs1, if_pos hV] at HR
          have HR := Lib.hid HR
          have hq : ((V : Int) / 4294967296 != 0) = true := by rw [bne_iff_ne]; omega
          have hs1' : ((s.size : Int) == 1) = false := by rw [beq_eq_false_iff_ne]; omega
          go_wp2
          exact HP.out _ (Below.refl _ _) _ HR.out
        · have hq : ((V : Int) / 4294967296 != 0) = false := by rw [bne_eq_false_iff_eq]; omega
          have hs1' : ((s.size : Int) == 1) = false := by rw [beq_eq_false_iff_ne]; omega
          have hcell : ∀ j, j < 4 → (w.alloc (Obj.cells #[Value.int IntKind.u8 ((V : Int) / 16777216), Value.int IntKind.u8 ((V : Int) / 65536 % 256), Value.int IntKind.u8 ((V : Int) / 256 % 256), Value.int IntKind.u8 ((V : Int) % 256)] 5)).cell? ⟨w.heap.size, j, none⟩ = some (.int .u8 (((b4 V).getD j 0).toNat : Int)) := fun j hj => by
            rw [(Blk.new w 5 #[Value.int IntKind.u8 ((V : Int) / 16777216), Value.int IntKind.u8 ((V : Int) / 65536 % 256), Value.int IntKind.u8 ((V : Int) / 256 % 256), Value.int IntKind.u8 ((V : Int) % 256)]).cell j]
            rcases (show j = 0 ∨ j = 1 ∨ j = 2 ∨ j = 3 by omega) with rfl | rfl | rfl | rfl <;> simp [b4] <;> omega
          have hB4 : (b4 V).length = 4 := rfl
          have hl : ((b4 V).take (s.size - 1)).length = s.size - 1 := by rw [List.length_take, hB4]; omega
          have hconv := run_convert_bytes_back (P := Try.prog) (w.alloc (Obj.cells #[Value.int IntKind.u8 ((V : Int) / 16777216), Value.int IntKind.u8 ((V : Int) / 65536 % 256), Value.int IntKind.u8 ((V : Int) / 256 % 256), Value.int IntKind.u8 ((V : Int) % 256)] 5)) 32 9 5 ⟨w.heap.size, 0, none⟩ 4 ((b4 V).take (s.size - 1)) Try.underlying32 Try.underlying5 Try.underlying9
            (fun j hj => by
              rw [hl] at hj
              rw [add_plain, Nat.zero_add, hcell j (by omega), List.getElem_take, List.getD_eq_getElem?_getD, List.getElem?_eq_getElem (show j < (b4 V).length by rw [hB4]; omega)]; rfl)
          rw [hl] at hconv
          have HR := hR.out
          rw [if_neg hs1, if_neg hV] at HR
          have HR := Lib.hid HR
          have hb1 := (Below.refl w.heap.size w).alloc (Nat.le_refl _) (Obj.cells #[Value.int IntKind.u8 ((V : Int) / 16777216), Value.int IntKind.u8 ((V : Int) / 65536 % 256), Value.int IntKind.u8 ((V : Int) / 256 % 256), Value.int IntKind.u8 ((V : Int) % 256)] 5)
          have HB1 := Lib.hid hb1
          clear hR hcell hB4 hb1
          generalize (b4 V).take (s.size - 1) = D at *
          have hDs : (⟨D.toArray⟩ : ByteArray).size = s.size - 1 := by show D.toArray.size = _; simp [hl]
          have hDl : (⟨D.toArray⟩ : ByteArray).data.toList = D := by simp
          have HGp := Lib.hid (fun w => group_any ⟨D.toArray⟩ w (by rw [hDs]; omega) (by rw [hDs]; omega))
          rw [hDl] at HGp
          clear hDs hDl hl
          by_cases hg : grp D = s.data.toList
          · have HR2 := HR.out
            rw [if_pos hg] at HR2
            have HR2 := Lib.hid HR2
            have hse : (⟨(grp D).toArray⟩ : ByteArray) = s := by rw [hg]
            rw [hse] at HGp
            clear hg hse
            go_wp2_with (go_at_call 59; refine (HGp.out _).mono ?_; rintro e w2 ⟨rfl, hb2⟩; have HB2 := Lib.hid hb2; clear hb2)
            exact HP.out _ (HB1.out.trans (HB2.out.mono HB1.out.size)) _ HR2.out
          · have HR2 := HR.out
            rw [if_neg hg] at HR2
            have HR2 := Lib.hid HR2
            have hgn : (!(grp D == s.toList)) = true := by rw [Lib.toList_data]; simpa using hg
            clear hg
            go_wp2_with (go_at_call 59; refine (HGp.out _).mono ?_; rintro e w2 ⟨rfl, hb2⟩; have HB2 := Lib.hid hb2; clear hb2)
            exact HP.out _ (HB1.out.trans (HB2.out.mono HB1.out.size)) _ HR2.out
end Go.Proofs.Ytdibgloaknnfgaa
