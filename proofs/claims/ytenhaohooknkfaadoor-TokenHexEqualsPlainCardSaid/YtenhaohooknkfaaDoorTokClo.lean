/- The closures of integer and reference, and what ContainsFunc answers with them. -/
import Derived.Test.YtenhaohooknkfaaDoorTokDig
import Derived.Test.YtenhaohooknkfaaDoorTokPair
namespace Go.Proofs.YtenhaohooknkfaaDoor
open Go.RowKit Tk
theorem enterI : ∀ args w, (callFunc 57 args).run Tryd.prog w = .ok (.enter 57 args) w := fun args w => by go_simp
theorem cloI (W : World) (x : Nat) : FnGives Tryd.prog 57 #[] #[encR x] (.bool (notD x)) W := by
  unfold FnGives encR notD
  by_cases h1 : x < 48
  · have h2 : (x : Int) < 48 := by omega
    rw [decide_eq_true h1]
    go_enter Tryd.func57, Tryd.ntmps57
    go_wp2
    go_ret
    exact ⟨rfl, 0, rfl⟩
  · have h2 : ¬ (x : Int) < 48 := by omega
    rw [decide_eq_false h1, Bool.false_or, show decide (57 < x) = decide ((57 : Int) < (x : Int)) from decide_eq_decide.2 (by omega)]
    go_enter Tryd.func57, Tryd.ntmps57
    go_wp2
    go_ret
    exact ⟨rfl, 0, rfl⟩
theorem enterR : ∀ args w, (callFunc 60 args).run Tryd.prog w = .ok (.enter 60 args) w := fun args w => by go_simp
theorem cloR (W : World) (x : Nat) : FnGives Tryd.prog 60 #[] #[encR x] (.bool (notD x)) W := by
  unfold FnGives encR notD
  by_cases h1 : x < 48
  · have h2 : (x : Int) < 48 := by omega
    rw [decide_eq_true h1]
    go_enter Tryd.func60, Tryd.ntmps60
    go_wp2
    go_ret
    exact ⟨rfl, 0, rfl⟩
  · have h2 : ¬ (x : Int) < 48 := by omega
    rw [decide_eq_false h1, Bool.false_or, show decide (57 < x) = decide ((57 : Int) < (x : Int)) from decide_eq_decide.2 (by omega)]
    go_enter Tryd.func60, Tryd.ntmps60
    go_wp2
    go_ret
    exact ⟨rfl, 0, rfl⟩
theorem hasI (S : ByteArray) (w : World) : Calls Tryd.prog 56 #[.string S, .func (.func 57) #[] #[]] w fun e w' => e = .returned (.bool (!((bys S).all digit))) ∧ Below w.heap.size w w' := by
  have h := strings_ContainsFunc 57 #[] enterI notD S w fun W x _ => cloI W x
  rw [idx_digits] at h
  exact h
theorem hasR (S : ByteArray) (w : World) : Calls Tryd.prog 56 #[.string S, .func (.func 60) #[] #[]] w fun e w' => e = .returned (.bool (!((bys S).all digit))) ∧ Below w.heap.size w w' := by
  have h := strings_ContainsFunc 60 #[] enterR notD S w fun W x _ => cloR W x
  rw [idx_digits] at h
  exact h
end Go.Proofs.YtenhaohooknkfaaDoor
