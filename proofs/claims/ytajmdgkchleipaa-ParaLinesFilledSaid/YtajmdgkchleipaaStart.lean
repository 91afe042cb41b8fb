/- The walk of ParaLinesFilled's closure: the width of a part without its join. -/
import Derived.Test.YtajmdgkchleipaaCover
import Derived.Test.YtajmdgkchleipaaFilledPlain
namespace Go.Proofs.Ytajmdgkchleipaa
open Go.RowKit Para
set_option maxHeartbeats 1000000 in
theorem start_any (b oc bb off c : Nat) (ws : List Wd) (w : World) (hbox : w.cell? ⟨bb, oc, none⟩ = some (.slice (some ⟨b, off, none⟩) ws.length c)) (hW : WordsIn w b off ws) (hm : ws.length ≤ 128) (i : Nat) (hi : i < (flatW ws).length) (h256 : (flatW ws).length ≤ 256) :
    Calls Try.prog 8 #[.int .i64 (i : Int), .pointer (some ⟨bb, oc, none⟩)] w fun e w' => e = .returned (.int .i64 (pt (flatW ws) i).width) ∧ Below w.heap.size w w' := by
  have HW := Lib.hid hW
  have hpre : Hid (∀ k, k ≤ ws.length → (flatW (ws.take k)).length ≤ (flatW ws).length) := fun k _ => by
    have e : flatW ws = flatW (ws.take k) ++ flatW (ws.drop k) := by
      conv => lhs; rw [← List.take_append_drop k ws]
      unfold flatW
      rw [List.flatMap_append]
    rw [e, List.length_append]; omega
  have hat : Hid (∀ k, k < ws.length → (flatW (ws.take k)).length ≤ i → i - (flatW (ws.take k)).length < (wdAt ws k).parts.length → (pt (flatW ws) i).width = (wdAt ws k).parts.getD (i - (flatW (ws.take k)).length) 0) := fun k h1 h2 h3 => pt_flat_at h1 h2 h3
  have hfin : Hid (flatW (ws.take ws.length) = flatW ws) := by unfold Hid; rw [List.take_of_length_le (Nat.le_refl _)]
  generalize hZ : (pt (flatW ws) i).width = Z at *
  have HZ := Lib.hid hZ
  clear hZ hW
  generalize hnn : ws.length = nw at *
  have HN := Lib.hid hnn
  clear hnn
  go_enter Try.func8, Try.ntmps8
  go_wp2
  go_loopw [0, 8] (fun vi vk wr => ∃ k : Nat, k ≤ nw ∧ vk = .int .i64 k ∧ (flatW (ws.take k)).length ≤ i ∧ vi = .int .i64 ((i - (flatW (ws.take k)).length : Nat) : Int) ∧ Below w.heap.size w wr) (fun _ k _ => nw - (intOf k).toNat)
  case atStart => exact ⟨0, by omega, rfl, by simp [flatW], by simp [flatW], Below.refl _ _⟩
  case round =>
    obtain ⟨k, hk, rfl, hle, rfl, hb⟩ := hrel
    by_cases hlt : k < nw
    · obtain ⟨A1, cA, Bq, cB, h1, h2, h3, h4⟩ := HW.out.cell k (by rw [HN.out]; exact hlt)
      have g1 := (hb.cell (p := ⟨b, off + k * 2, none⟩) HW.out.lt).trans h1
      have g2 := (hb.cell (p := ⟨b, off + k * 2 + 1, none⟩) HW.out.lt).trans h2
      have g3 := Nat.lt_of_lt_of_le HW.out.lt hb.size
      have HA := Lib.hid (hat.out k (by omega) hle)
      have HS : Hid ((flatW (ws.take (k + 1))).length = (flatW (ws.take k)).length + (wdAt ws k).parts.length) := by
        unfold Hid; rw [flatW_succ ws k (by rw [HN.out]; exact hlt), List.length_append, wordParts_length]
      have hs2 := hpre.out (k + 1) (by omega)
      rw [HS.out] at hs2
      have h3' := h3.later hb
      generalize hpp : (wdAt ws k).parts = pp at *
      obtain ⟨r, hr⟩ : ∃ r, r = i - (flatW (ws.take k)).length := ⟨_, rfl⟩
      rw [← hr]
      have HR := Lib.hid hr
      have HB := Lib.hid hb
      generalize hF : (flatW (ws.take k)).length = F at *
      have HF := Lib.hid hF
      have HLe := Lib.hid hle
      have hrb : r ≤ 256 := by omega
      generalize hm1 : pp.length = m at *
      have hmb : m ≤ 256 := by omega
      have HM := Lib.hid hm1
      generalize (wdAt ws k).joins.length = mj at *
      clear h1 h2 h3 h4 hb hr hF hle hs2 hpp hat hm1
      by_cases hin : r < m
      · obtain ⟨bp, op, hA, hbl, hcell⟩ := h3'.plainA (by rw [ints_length, HM.out]; omega)
        subst hA
        have hcc := hcell r _ (ints_get (by rw [HM.out]; exact hin))
        have hcc' : wr.cell? ⟨bp, op + r, none⟩ = some (.int .i64 Z) := by
          have e := HA.out (by have := HR.out; omega)
          rw [← HR.out] at e
          rw [hcc, e]
        clear hcell h3' hcc
        go_wp2
        go_ret
        exact ⟨rfl, HB.out.alloc HB.out.size _⟩
      · clear h3'
        go_wp2
        go_roundw
        case rel => exact ⟨k + 1, by omega, by go_num, by rw [HS.out]; have := HR.out; have := HLe.out; omega, valInt (by rw [HS.out]; have := HR.out; have := HLe.out; omega), HB.out.alloc HB.out.size _⟩
        case measure => simp [intOf]; omega
    · exfalso
      obtain rfl : k = nw := by omega
      rw [hfin.out] at hle
      omega
end Go.Proofs.Ytajmdgkchleipaa
