/- Whether a string has a byte that is no digit: ContainsFunc's answer, in plain words. -/
import Derived.Test.YtenhaohooknkfaaDoorTokCur
import Derived.Test.YtenhaohooknkfaaDoorLaid2
namespace Go.Proofs.YtenhaohooknkfaaDoor
open Go.RowKit Tk
def notD (r : Nat) : Bool := decide (r < 48) || decide (57 < r)
theorem dec_small (s : ByteArray) (i : Nat) (h : (s.get! i).toNat < 128) : Utf8.decode s i = ((s.get! i).toNat, 1) := by
  unfold Utf8.decode
  dsimp only
  exact if_pos h
theorem dec_big (s : ByteArray) (i : Nat) (h : 128 ≤ (s.get! i).toNat) : 128 ≤ (Utf8.decode s i).1 := by
  unfold Utf8.decode
  dsimp only
  rw [if_neg (show ¬ (s.get! (i + 0)).toNat < 128 by rw [Nat.add_zero]; omega)]
  have he : 128 ≤ Utf8.runeError := by decide
  split
  · split
    · assumption
    · exact he
  · split
    · split
      · rename_i h2; simp at h2 ⊢; omega
      · exact he
    · split
      · split
        · rename_i h2; simp at h2 ⊢; omega
        · exact he
      · exact he
theorem get_byte (S : ByteArray) (p : Nat) (h : p < S.size) : S.get! p = S[p]'h := by
  have := idx_byte S p h
  unfold bys at this
  have h2 : p < S.data.size := h
  rw [Array.getElem?_toList, Array.getElem?_eq_getElem h2] at this
  exact (Option.some.inj this).symm
theorem digit_notD (c : UInt8) : notD c.toNat = !digit c := by
  have := u8_all (fun c => notD c.toNat == !digit c) (by decide +kernel) c
  simpa using this
theorem idx_from (S : ByteArray) : ∀ (f pos : Nat), S.size ≤ pos + f → decide (0 ≤ Lib.idxFuncFrom notD true S f pos) = !(((bys S).drop pos).all digit)
  | 0, pos, h => by
    rw [List.drop_eq_nil_of_le (by rw [bys_len]; omega)]
    rfl
  | f + 1, pos, h => by
    unfold Lib.idxFuncFrom
    by_cases hp : pos < S.size
    · rw [if_pos hp, drop_byte S pos hp, List.all_cons, ← get_byte S pos hp]
      by_cases hb : (S.get! pos).toNat < 128
      · rw [dec_small S pos hb]
        dsimp only
        rw [digit_notD]
        cases hd : digit (S.get! pos) with
        | false => rw [if_pos (show (!false) = true from rfl), decide_eq_true (by omega)]; rfl
        | true => rw [if_neg (by decide), idx_from S f (pos + 1) (by omega)]; simp
      · have h1 := dec_big S pos (by omega)
        have h2 : notD (Utf8.decode S pos).1 = true := by unfold notD; rw [Bool.or_eq_true]; exact .inr (decide_eq_true (by omega))
        have h3 : digit (S.get! pos) = false := by
          have := digit_notD (S.get! pos)
          unfold notD at this
          rw [show (decide ((S.get! pos).toNat < 48) || decide (57 < (S.get! pos).toNat)) = true by rw [Bool.or_eq_true]; exact .inr (decide_eq_true (by omega))] at this
          cases hd : digit (S.get! pos) with
          | false => rfl
          | true => rw [hd] at this; cases this
        rw [h2, if_pos rfl, h3, decide_eq_true (by omega)]; rfl
    · rw [if_neg hp, List.drop_eq_nil_of_le (by rw [bys_len]; omega)]; rfl
theorem idx_digits (S : ByteArray) : decide (0 ≤ Lib.idxFunc notD true S) = !((bys S).all digit) := by
  unfold Lib.idxFunc
  exact idx_from S S.size 0 (by omega)
end Go.Proofs.YtenhaohooknkfaaDoor
