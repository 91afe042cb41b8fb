/- The walk of slices.IsSorted at names in order. -/
import Derived.Test.YtpfkmjckjomeeaaDoorArcHold
import Derived.Deep.QuietTactic
import Derived.BigQuiet
import Derived.IntWalk
namespace Go.Proofs.YtpfkmjckjomeeaaDoor
open Go.RowKit Arc
theorem nan_str (x : ByteArray) (w : World) : Calls Tryd.prog 42 #[.string x] w fun e w' => e = .returned (.bool false) ∧ w = w' := by
  go_enter Tryd.func42, Tryd.ntmps42
  go_wp2
  go_ret
  exact ⟨by simp, rfl⟩
theorem less_no (x y : ByteArray) (w : World) (h : less x y = false) : Calls Tryd.prog 32 #[.string x, .string y] w fun e w' => e = .returned (.bool false) ∧ w' = w := by
  have hd : Op.bytesLess x.toList y.toList = false := by rw [Lib.toList_data, Lib.toList_data]; exact h
  clear h
  go_enter Tryd.func32, Tryd.ntmps32
  go_wp2_with (go_at_call 42; refine (nan_str _ _).mono ?_; rintro e w' ⟨rfl, rfl⟩)
  go_ret
  exact ⟨by first | rfl | simp [hd], rfl⟩
set_option maxHeartbeats 4000000 in
theorem issorted_yes {v : Value} {ok : Nat → Prop} (l : List ByteArray) (w : World) (h : Sl w ok v (strs l)) (hS : Srt l) (hl : l.length ≤ 1000000) :
    Calls Tryd.prog 20 #[v] w fun e w' => e = .returned (.bool true) ∧ Same w w' := by
  obtain ⟨A, cap, rfl⟩ := h.form
  have hll : (strs l).length = l.length := by simp [strs]
  rw [hll]
  have HS := Lib.hid h
  have HL : Hid (∀ i, i + 1 < l.length → less (l.getD (i + 1) ByteArray.empty) (l.getD i ByteArray.empty) = false) := fun i hi => by
    have := List.pairwise_iff_getElem.1 hS i (i + 1) (by omega) hi (by omega)
    rw [List.getD_eq_getElem?_getD, List.getD_eq_getElem?_getD, List.getElem?_eq_getElem hi, List.getElem?_eq_getElem (show i < l.length by omega)]
    exact less_asymm this
  obtain ⟨n, hn⟩ : ∃ n, l.length = n := ⟨_, rfl⟩
  rw [hn] at HL hl ⊢
  have HN := Lib.hid hn
  clear h hS hn hll
  by_cases hz : n = 0
  · subst hz
    go_enter Tryd.func20, Tryd.ntmps20
    go_wp2
    refine wp_loop_once ?_
    go_wp2
    go_ret
    exact ⟨rfl, Same.refl _⟩
  · go_enter Tryd.func20, Tryd.ntmps20
    go_wp2
    go_loopw [3] (fun vi wr => ∃ k : Nat, k < n ∧ vi = .int .i64 (k : Int) ∧ Same w wr) (fun i _ => (intOf i).toNat)
    case atStart => exact ⟨n - 1, by omega, by congr 1; omega, Same.refl _⟩
    case round =>
      obtain ⟨k, hk, rfl, hw⟩ := hrel
      have HW := Lib.hid hw
      clear hw
      by_cases hz : k = 0
      · subst hz
        go_wp2
        go_ret
        exact ⟨rfl, HW.out⟩
      · obtain ⟨bd, od, had, hbd, hcd⟩ := (HS.out.same HW.out).plainA (by simp [strs]; have := HN.out; omega)
        subst had
        have c1 := hcd k _ (strs_get l k (by have := HN.out; omega))
        have c0 := hcd (k - 1) _ (strs_get l (k - 1) (by have := HN.out; omega))
        have hless := HL.out (k - 1) (by omega)
        rw [show k - 1 + 1 = k by omega] at hless
        generalize l.getD k ByteArray.empty = x at *
        generalize l.getD (k - 1) ByteArray.empty = y at *
        have HLe := Lib.hid hless
        have e1 : IntKind.i64.wrap ((k : Int) - 1) = (k : Int) - 1 := IntWalk.i64_in _ (by omega)
        have e2 : 0 ≤ (k : Int) - 1 := by omega
        have e3 : (1 : Int) ≤ k := by omega
        have e4 : ((k : Int) - 1).toNat = k - 1 := by omega
        have e5 : (k : Int) - 1 < (n : Int) := by omega
        have e6 : (k : Int) < (n : Int) := by omega
        have HE := Lib.hid e1
        clear hcd hless hz e1
        go_wp2
        have e1 := HE.out
        go_quiet ((go_at_call 32; refine Calls.quiet_of_same (less_no x y _ HLe.out)))
        clear e1 e2 e3 e4 e5 e6
        go_wp2
        go_roundw
        case rel => exact ⟨k - 1, by omega, by congr 1; omega, HW.out.drewN_ _⟩
        case measure => simp [intOf]; omega
end Go.Proofs.YtpfkmjckjomeeaaDoor
