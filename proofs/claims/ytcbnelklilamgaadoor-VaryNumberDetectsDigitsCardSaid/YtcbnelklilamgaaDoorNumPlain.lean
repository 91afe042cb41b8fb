/- Numbers with two check digits, in plain words. No program is in sight here. -/
import Derived.Lib.ItoaNum
import Derived.Lib.Atoi
import Derived.Lib.Repeat
namespace Go.Proofs.YtcbnelklilamgaaDoor
namespace Num
open Go.Lib
theorem snoc_ind {p : List UInt8 → Prop} (h0 : p []) (hs : ∀ l c, p l → p (l ++ [c])) (l : List UInt8) : p l := by
  have key : ∀ l : List UInt8, p l.reverse := by
    intro l
    induction l with
    | nil => exact h0
    | cons c r ih => rw [List.reverse_cons]; exact hs _ _ ih
  have := key l.reverse
  rwa [List.reverse_reverse] at this
/-- A number with k digits. -/
def pad : Nat → Nat → List UInt8
  | 0, _ => []
  | k + 1, n => pad k (n / 10) ++ [UInt8.ofNat (48 + n % 10)]
def dv (c : UInt8) : Nat := c.toNat - 48
def val (l : List UInt8) : Nat := l.foldl (fun r c => r * 10 + dv c) 0
def Digs (l : List UInt8) : Prop := ∀ c ∈ l, 48 ≤ c.toNat ∧ c.toNat ≤ 57
theorem pad_length (k n : Nat) : (pad k n).length = k := by
  induction k generalizing n with
  | zero => rfl
  | succ k ih => simp [pad, ih]
theorem dig_toNat (n : Nat) : (UInt8.ofNat (48 + n % 10)).toNat = 48 + n % 10 := by rw [UInt8.toNat_ofNat']; omega
theorem pad_digs (k n : Nat) : Digs (pad k n) := by
  induction k generalizing n with
  | zero => intro c hc; simp [pad] at hc
  | succ k ih =>
    intro c hc
    rcases List.mem_append.1 hc with h | h
    · exact ih _ c h
    · rw [List.mem_singleton.1 h, dig_toNat]; omega
theorem foldl_val (l : List UInt8) (a : Nat) : l.foldl (fun r c => r * 10 + dv c) a = a * 10 ^ l.length + val l := by
  induction l generalizing a with
  | nil => simp [val]
  | cons c r ih =>
    unfold val
    simp only [List.foldl_cons, List.length_cons]
    rw [ih, ih (0 * 10 + dv c), Nat.pow_succ]
    rw [Nat.add_mul, Nat.zero_mul, Nat.zero_add, Nat.mul_assoc, Nat.mul_comm 10, Nat.add_assoc]
theorem val_append (a b : List UInt8) : val (a ++ b) = val a * 10 ^ b.length + val b := by
  unfold val; rw [List.foldl_append]; exact foldl_val b _
theorem val_one (c : UInt8) : val [c] = dv c := by simp [val]
theorem val_pad (k n : Nat) (h : n < 10 ^ k) : val (pad k n) = n := by
  induction k generalizing n with
  | zero => simp at h; subst h; rfl
  | succ k ih =>
    unfold pad
    rw [Nat.pow_succ] at h
    rw [val_append, ih (n / 10) (by omega), val_one]
    unfold dv; rw [dig_toNat]; simp; omega
theorem val_lt {l : List UInt8} (h : Digs l) : val l < 10 ^ l.length := by
  revert h
  refine snoc_ind (p := fun l => Digs l → val l < 10 ^ l.length) (fun _ => by simp [val]) (fun l c ih h => ?_) l
  · have h1 := ih fun x hx => h x (by simp [hx])
    have h2 := h c (by simp)
    rw [val_append, val_one, List.length_append, List.length_singleton, Nat.pow_succ]
    unfold dv; simp; omega
theorem pad_val {l : List UInt8} (h : Digs l) : pad l.length (val l) = l := by
  revert h
  refine snoc_ind (p := fun l => Digs l → pad l.length (val l) = l) (fun _ => rfl) (fun l c ih h => ?_) l
  · have h1 := ih fun x hx => h x (by simp [hx])
    have h2 := h c (by simp)
    rw [List.length_append, List.length_singleton]
    unfold pad
    rw [val_append, val_one]
    have e1 : (val l * 10 ^ [c].length + dv c) / 10 = val l := by simp [dv]; omega
    have e2 : (val l * 10 ^ [c].length + dv c) % 10 = dv c := by simp [dv]; omega
    rw [e1, e2, h1]
    congr 2
    apply UInt8.toNat.inj
    rw [UInt8.toNat_ofNat']; unfold dv; omega
/-- The library's numeral. -/
theorem pad_dec (k n : Nat) (h : nDigits n ≤ k) : pad k n = List.replicate (k - nDigits n) 48 ++ decDigits n := by
  induction k generalizing n with
  | zero => have := nDigits_pos n; omega
  | succ k ih =>
    by_cases h10 : n < 10
    · rw [nDigits_small h10, decDigits, dif_pos h10]
      have hz : ∀ k, pad k 0 = List.replicate k 48 := by
        intro k
        induction k with
        | zero => rfl
        | succ k ih => unfold pad; rw [show 0 / 10 = 0 from rfl, ih, List.replicate_succ']; rfl
      unfold pad
      rw [Nat.div_eq_of_lt h10, hz, Nat.mod_eq_of_lt h10]; simp
    · rw [nDigits_big h10] at h ⊢
      rw [decDigits, dif_neg h10]
      unfold pad
      rw [ih (n / 10) (by omega), List.append_assoc]
      congr 2; omega
theorem dec_length (n : Nat) : (decDigits n).length = nDigits n := by
  have := congrArg List.length (pad_dec (nDigits n) n (Nat.le_refl _))
  simpa [pad_length] using this.symm
theorem lt_of_digits {k n : Nat} (h : nDigits n ≤ k) : n < 10 ^ k := Nat.lt_of_lt_of_le (lt_pow_nDigits n) (Nat.pow_le_pow_right (by decide) h)
theorem repeat_rep (c : Nat) : repeatL [48] c = List.replicate c 48 := by
  induction c with
  | zero => rfl
  | succ c ih => simp [repeatL, ih, List.replicate_succ]
/-- The check number. -/
def chk (n : Nat) : Nat := 98 - n * 100 % 97
theorem chk_le (n : Nat) : 2 ≤ chk n ∧ chk n ≤ 98 := by unfold chk; omega
def numbered (k n : Nat) : List UInt8 := pad k n ++ pad 2 (chk n)
theorem numbered_length (k n : Nat) : (numbered k n).length = k + 2 := by simp [numbered, pad_length]
theorem numbered_digs (k n : Nat) : Digs (numbered k n) := fun c hc => by
  rcases List.mem_append.1 hc with h | h
  · exact pad_digs _ _ c h
  · exact pad_digs _ _ c h
/-- Is a row of digits a number with its check digits? -/
def good (l : List UInt8) : Bool := decide (numbered (l.length - 2) (val (l.take (l.length - 2))) = l)
theorem good_numbered (k n : Nat) (h : n < 10 ^ k) : good (numbered k n) = true ∧ val ((numbered k n).take k) = n := by
  have e : (numbered k n).take k = pad k n := by unfold numbered; rw [List.take_append_of_le_length (by rw [pad_length]; omega), List.take_of_length_le (by rw [pad_length]; omega)]
  refine ⟨?_, by rw [e, val_pad k n h]⟩
  unfold good
  rw [numbered_length, show k + 2 - 2 = k by omega, e, val_pad k n h, decide_eq_true rfl]
/-- What is good is 1 modulo 97. -/
theorem good_mod {l : List UInt8} (h : good l = true) : val l % 97 = 1 := by
  unfold good at h
  have h := of_decide_eq_true h
  rw [← h]
  generalize l.length - 2 = k at *
  generalize hm : val (l.take k) = m at *
  unfold numbered
  rw [val_append, pad_length]
  have hc := chk_le m
  rw [val_pad 2 (chk m) (by omega)]
  have hl : m < 10 ^ k := by
    have e : (l.take k).length ≤ k := by rw [List.length_take]; omega
    have e2 : l.take k = pad k m := by
      rw [← h]; unfold numbered; rw [List.take_append_of_le_length (by rw [pad_length]; omega), List.take_of_length_le (by rw [pad_length]; omega)]
    have hd : Digs (l.take k) := by rw [e2]; exact pad_digs _ _
    have := val_lt hd
    rw [hm] at this
    exact Nat.lt_of_lt_of_le this (Nat.pow_le_pow_right (by decide) e)
  rw [val_pad k m hl]
  unfold chk; omega
theorem pow_mod (d j : Nat) (h : d % 97 ≠ 0) : d * 10 ^ j % 97 ≠ 0 := by
  induction j with
  | zero => simpa using h
  | succ j ih => rw [Nat.pow_succ, ← Nat.mul_assoc]; omega
/-- One digit is another one. -/
theorem bad_digit {a b : List UInt8} {x y : UInt8} (h : good (a ++ x :: b) = true) (hx : 48 ≤ x.toNat ∧ x.toNat ≤ 57) (hy : 48 ≤ y.toNat ∧ y.toNat ≤ 57) (hne : x ≠ y) : good (a ++ y :: b) = false := by
  cases hg : good (a ++ y :: b) with
  | false => rfl
  | true =>
    exfalso
    have h1 := good_mod h
    have h2 := good_mod hg
    have e : ∀ z : UInt8, val (a ++ z :: b) = val a * 10 ^ (b.length + 1) + (dv z * 10 ^ b.length + val b) := fun z => by
      rw [val_append, show z :: b = [z] ++ b from rfl, val_append, val_one]; simp
    rw [e] at h1 h2
    have hd : x.toNat ≠ y.toNat := fun e => hne (UInt8.toNat.inj e)
    unfold dv at h1 h2
    rcases Nat.lt_or_gt_of_ne hd with hlt | hlt
    · have h3 := pow_mod (y.toNat - x.toNat) b.length (by omega)
      have e2 : (y.toNat - 48) * 10 ^ b.length = (x.toNat - 48) * 10 ^ b.length + (y.toNat - x.toNat) * 10 ^ b.length := by rw [← Nat.add_mul]; congr 1; omega
      rw [e2] at h2
      generalize (x.toNat - 48) * 10 ^ b.length = p at *
      generalize (y.toNat - x.toNat) * 10 ^ b.length = q at *
      generalize val a * 10 ^ (b.length + 1) = r at *
      omega
    · have h3 := pow_mod (x.toNat - y.toNat) b.length (by omega)
      have e2 : (x.toNat - 48) * 10 ^ b.length = (y.toNat - 48) * 10 ^ b.length + (x.toNat - y.toNat) * 10 ^ b.length := by rw [← Nat.add_mul]; congr 1; omega
      rw [e2] at h1
      generalize (y.toNat - 48) * 10 ^ b.length = p at *
      generalize (x.toNat - y.toNat) * 10 ^ b.length = q at *
      generalize val a * 10 ^ (b.length + 1) = r at *
      omega
/-- Two neighbours are exchanged. -/
theorem bad_swap {a b : List UInt8} {x y : UInt8} (h : good (a ++ x :: y :: b) = true) (hx : 48 ≤ x.toNat ∧ x.toNat ≤ 57) (hy : 48 ≤ y.toNat ∧ y.toNat ≤ 57) (hne : x ≠ y) : good (a ++ y :: x :: b) = false := by
  cases hg : good (a ++ y :: x :: b) with
  | false => rfl
  | true =>
    exfalso
    have h1 := good_mod h
    have h2 := good_mod hg
    have e : ∀ z t : UInt8, val (a ++ z :: t :: b) = val a * 10 ^ (b.length + 2) + ((dv z * 10 + dv t) * 10 ^ b.length + val b) := fun z t => by
      rw [val_append, show z :: t :: b = [z, t] ++ b from rfl, val_append, show val [z, t] = dv z * 10 + dv t by simp [val]]; simp
    rw [e] at h1 h2
    have hd : x.toNat ≠ y.toNat := fun e => hne (UInt8.toNat.inj e)
    unfold dv at h1 h2
    rcases Nat.lt_or_gt_of_ne hd with hlt | hlt
    · have h3 := pow_mod (9 * (y.toNat - x.toNat)) b.length (by omega)
      have e2 : ((y.toNat - 48) * 10 + (x.toNat - 48)) * 10 ^ b.length = ((x.toNat - 48) * 10 + (y.toNat - 48)) * 10 ^ b.length + 9 * (y.toNat - x.toNat) * 10 ^ b.length := by rw [← Nat.add_mul]; congr 1; omega
      rw [e2] at h2
      generalize ((x.toNat - 48) * 10 + (y.toNat - 48)) * 10 ^ b.length = p at *
      generalize 9 * (y.toNat - x.toNat) * 10 ^ b.length = q at *
      generalize val a * 10 ^ (b.length + 2) = r at *
      omega
    · have h3 := pow_mod (9 * (x.toNat - y.toNat)) b.length (by omega)
      have e2 : ((x.toNat - 48) * 10 + (y.toNat - 48)) * 10 ^ b.length = ((y.toNat - 48) * 10 + (x.toNat - 48)) * 10 ^ b.length + 9 * (x.toNat - y.toNat) * 10 ^ b.length := by rw [← Nat.add_mul]; congr 1; omega
      rw [e2] at h1
      generalize ((y.toNat - 48) * 10 + (x.toNat - 48)) * 10 ^ b.length = p at *
      generalize 9 * (x.toNat - y.toNat) * 10 ^ b.length = q at *
      generalize val a * 10 ^ (b.length + 2) = r at *
      omega
/-- The library's value of digits. -/
theorem decFrom_val (l : List UInt8) (h : Digs l) (a : Nat) : decFrom a l = some (l.foldl (fun r c => r * 10 + dv c) a) := by
  induction l generalizing a with
  | nil => rfl
  | cons c r ih =>
    have hc := h c (by simp)
    unfold decFrom digitVal
    rw [if_pos hc]
    exact ih (fun x hx => h x (by simp [hx])) _
theorem atoi_val (l : List UInt8) (h : Digs l) (hl : l ≠ []) : atoi l = some (val l : Int) := by
  cases l with
  | nil => exact absurd rfl hl
  | cons c r =>
    have hc := h c (by simp)
    have h1 : (c == 45) = false := by rw [beq_eq_false_iff_ne]; intro e; rw [e] at hc; revert hc; decide
    have h2 : (c == 43) = false := by rw [beq_eq_false_iff_ne]; intro e; rw [e] at hc; revert hc; decide
    have hd : decNat (c :: r) = some (val (c :: r)) := by
      unfold decNat
      simp only [List.isEmpty_cons, Bool.false_eq_true, if_false]
      rw [decFrom_val _ h]; rfl
    simp only [atoi, h1, h2, hd, Bool.false_eq_true, if_false, Option.map_some]
end Num
end Go.Proofs.YtcbnelklilamgaaDoor
