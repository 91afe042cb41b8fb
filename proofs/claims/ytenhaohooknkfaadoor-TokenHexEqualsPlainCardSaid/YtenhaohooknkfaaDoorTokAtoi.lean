/- What Atoi answers for the words that are integers, in plain words. -/
import Derived.Test.YtenhaohooknkfaaDoorTokValid
import Derived.Lib.Atoi
namespace Go.Proofs.YtenhaohooknkfaaDoor
namespace Tk
theorem digitVal_of (c : UInt8) (h : digit c = true) : Lib.digitVal c = some (c.toNat - 48) := by
  have := u8_all (fun c => !digit c || (Lib.digitVal c == some (c.toNat - 48))) (by decide +kernel) c
  rw [h] at this; simpa using this
theorem decFrom_of : ∀ (d : Src) (a : Nat), d.all digit = true → Lib.decFrom a d = some (d.foldl (fun n c => n * 10 + (c.toNat - 48)) a)
  | [], a, _ => rfl
  | c :: d, a, h => by
    rw [List.all_cons, Bool.and_eq_true] at h
    unfold Lib.decFrom
    rw [digitVal_of c h.1]
    dsimp only
    rw [decFrom_of d _ h.2]; rfl
theorem decNat_of {d : Src} (h0 : d ≠ []) (h : d.all digit = true) : Lib.decNat d = some (natV d) := by
  unfold Lib.decNat
  rw [decFrom_of d 0 h]
  cases d with
  | nil => exact absurd rfl h0
  | cons x r => rfl
theorem atoi_of {w : Src} (h0 : (digs w).length ≠ 0) (h : (digs w).all digit = true) : Lib.atoi w = some (intV w) := by
  cases w with
  | nil => exact absurd rfl h0
  | cons x r =>
    unfold Lib.atoi intV
    dsimp only
    by_cases e1 : x = 45
    · subst e1
      have e2 : digs (45 :: r) = r := rfl
      rw [e2] at h0 h
      rw [if_pos (by decide), if_pos (by decide), decNat_of (fun e => h0 (by rw [e]; rfl)) h]; rfl
    · by_cases e4 : x = 43
      · subst e4
        have e2 : digs (43 :: r) = r := rfl
        rw [e2] at h0 h
        rw [if_neg (by decide), if_pos (by decide), if_neg (by decide), if_pos (by decide), decNat_of (fun e => h0 (by rw [e]; rfl)) h]; rfl
      · have e2 : digs (x :: r) = x :: r := by unfold digs signed; simp [e1, e4]
        rw [e2] at h0 h
        rw [if_neg (by simpa using e1), if_neg (by simpa using e4), if_neg (by simpa using e1), if_neg (by simpa using e4), decNat_of (by simp) h]; rfl
end Tk
end Go.Proofs.YtenhaohooknkfaaDoor
