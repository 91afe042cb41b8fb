/- The plain law of the checksum: the register is linear, joining is multiplying by a power of x, and a change within 32 successive bits is seen. No program is in sight here. -/
namespace Go.Proofs.YtdibgloaknnfgaaDoor.Crc

/-- One bit's step of the register. -/
def S (r : BitVec 32) : BitVec 32 := (r >>> 1) ^^^ (if r.getLsbD 0 then 0xedb88320#32 else 0#32)

theorem S_xor (a b : BitVec 32) : S (a ^^^ b) = S a ^^^ S b := by
  unfold S
  rw [BitVec.getLsbD_xor, BitVec.ushiftRight_xor_distrib]
  cases a.getLsbD 0 <;> cases b.getLsbD 0 <;> simp
  · ac_rfl
  · ac_rfl
  · have : ∀ x y z : BitVec 32, x ^^^ y = (x ^^^ z) ^^^ (y ^^^ z) := fun x y z => by
      apply BitVec.eq_of_getLsbD_eq; intro i hi; simp only [BitVec.getLsbD_xor]; cases x.getLsbD i <;> cases y.getLsbD i <;> cases z.getLsbD i <;> rfl
    exact this _ _ _

theorem S_zero : S 0#32 = 0#32 := by decide

def Sn : Nat → BitVec 32 → BitVec 32
  | 0, r => r
  | n + 1, r => Sn n (S r)

theorem Sn_xor (n : Nat) : ∀ a b : BitVec 32, Sn n (a ^^^ b) = Sn n a ^^^ Sn n b := by
  induction n with
  | zero => intro a b; rfl
  | succ n ih => intro a b; simp only [Sn, S_xor, ih]

theorem Sn_zero (n : Nat) : Sn n 0#32 = 0#32 := by
  induction n with
  | zero => rfl
  | succ n ih => simp only [Sn, S_zero, ih]

theorem Sn_add (m n : Nat) : ∀ r : BitVec 32, Sn (m + n) r = Sn n (Sn m r) := by
  induction m with
  | zero => intro r; simp [Sn]
  | succ m ih => intro r; rw [Nat.add_right_comm]; simp only [Sn, ih]

theorem Sn_succ (n : Nat) (r : BitVec 32) : Sn (n + 1) r = S (Sn n r) := by rw [Sn_add]; rfl

theorem S_low (r : BitVec 32) (h : r.getLsbD 0 = false) : S r = r >>> 1 := by unfold S; rw [h]; simp

theorem S_inj0 (r : BitVec 32) (h : S r = 0#32) : r = 0#32 := by
  by_cases hb : r.getLsbD 0
  · have h31 : (S r).getLsbD 31 = true := by
      unfold S
      rw [if_pos hb, BitVec.getLsbD_xor, BitVec.getLsbD_ushiftRight]
      simp
    rw [h] at h31
    simp at h31
  · have hf : r.getLsbD 0 = false := by simpa using hb
    rw [S_low r hf] at h
    apply BitVec.eq_of_getLsbD_eq
    intro i hi
    by_cases h0 : i = 0
    · subst h0; simpa using hf
    · have hx : (r >>> 1).getLsbD (i - 1) = (0#32).getLsbD (i - 1) := by rw [h]
      rw [BitVec.getLsbD_ushiftRight] at hx
      have e : 1 + (i - 1) = i := by omega
      rw [e] at hx
      simpa using hx

theorem Sn_inj0 (n : Nat) : ∀ r : BitVec 32, Sn n r = 0#32 → r = 0#32 := by
  induction n with
  | zero => intro r h; exact h
  | succ n ih => intro r h; exact S_inj0 r (ih _ h)

/-- The effect of four bits, as the program has it. -/
def T : List Nat := [0, 498536548, 997073096, 651767980, 1994146192, 1802195444, 1303535960, 1342533948, 3988292384, 4027552580, 3604390888, 3412177804, 2607071920, 2262029012, 2685067896, 3183342108]

def N (r : BitVec 32) : BitVec 32 := (r >>> 4) ^^^ BitVec.ofNat 32 (T.getD (r.toNat % 16) 0)

theorem T_eq : ∀ i : Fin 16, Sn 4 (BitVec.ofNat 32 i.val) = BitVec.ofNat 32 (T.getD i.val 0) := by decide

theorem split4 (r : BitVec 32) : r = ((r >>> 4) <<< 4) ^^^ BitVec.ofNat 32 (r.toNat % 16) := by
  apply BitVec.eq_of_getLsbD_eq
  intro i hi
  rw [BitVec.getLsbD_xor, BitVec.getLsbD_shiftLeft, BitVec.getLsbD_ushiftRight]
  have e : (BitVec.ofNat 32 (r.toNat % 16)).getLsbD i = (decide (i < 4) && r.getLsbD i) := by
    rw [BitVec.getLsbD_ofNat]
    rw [show (16 : Nat) = 2 ^ 4 from rfl, Nat.testBit_mod_two_pow]
    simp [hi, BitVec.getLsbD]
  rw [e]
  by_cases h4 : i < 4
  · simp [h4]
  · have e2 : 4 + (i - 4) = i := by omega
    simp [h4, hi, e2]

theorem Sn4_high (x : BitVec 32) : Sn 4 ((x >>> 4) <<< 4) = x >>> 4 := by
  have b (i : Nat) (h : i < 4) : ((x >>> 4) <<< 4).getLsbD i = false := by
    rw [BitVec.getLsbD_shiftLeft]; simp [h]
  show S (S (S (S ((x >>> 4) <<< 4)))) = _
  generalize hy : (x >>> 4) <<< 4 = y at b
  rw [S_low y (b 0 (by omega)), S_low (y >>> 1) (by rw [BitVec.getLsbD_ushiftRight]; exact b 1 (by omega)),
    S_low (y >>> 1 >>> 1) (by rw [BitVec.getLsbD_ushiftRight, BitVec.getLsbD_ushiftRight]; exact b 2 (by omega)),
    S_low (y >>> 1 >>> 1 >>> 1) (by rw [BitVec.getLsbD_ushiftRight, BitVec.getLsbD_ushiftRight, BitVec.getLsbD_ushiftRight]; exact b 3 (by omega))]
  subst hy
  apply BitVec.eq_of_getLsbD_eq
  intro i hi
  simp only [BitVec.getLsbD_ushiftRight, BitVec.getLsbD_shiftLeft]
  by_cases h : i < 28
  · have e : 1 + (1 + (1 + (1 + i))) = i + 4 := by omega
    rw [e]
    simp [Nat.add_comm]
    intro h'; omega
  · have e : 1 + (1 + (1 + (1 + i))) = i + 4 := by omega
    rw [e]
    have z : x.getLsbD (4 + i) = false := BitVec.getLsbD_of_ge x _ (by omega)
    simp [Nat.add_comm] at z ⊢
    simp [z]

theorem N_eq (r : BitVec 32) : N r = Sn 4 r := by
  conv => rhs; rw [split4 r]
  rw [Sn_xor, Sn4_high]
  have := T_eq ⟨r.toNat % 16, Nat.mod_lt _ (by omega)⟩
  simp only at this
  rw [this]; rfl

/-- One byte's step, and a string's. -/
def byteStep (r : BitVec 32) (c : UInt8) : BitVec 32 := N (N (r ^^^ BitVec.ofNat 32 c.toNat))
def reg (l : List UInt8) (r : BitVec 32) : BitVec 32 := l.foldl byteStep r
def sum (l : List UInt8) : BitVec 32 := ~~~ (reg l (~~~ 0#32))

theorem byteStep_eq (r : BitVec 32) (c : UInt8) : byteStep r c = Sn 8 (r ^^^ BitVec.ofNat 32 c.toNat) := by
  unfold byteStep; rw [N_eq, N_eq, ← Sn_add]

theorem reg_append (a b : List UInt8) (r : BitVec 32) : reg (a ++ b) r = reg b (reg a r) := by simp [reg]

theorem reg_cons (c : UInt8) (l : List UInt8) (r : BitVec 32) : reg (c :: l) r = reg l (byteStep r c) := rfl

theorem reg_xor (l : List UInt8) : ∀ a b : BitVec 32, reg l (a ^^^ b) = reg l a ^^^ Sn (8 * l.length) b := by
  induction l with
  | nil => intro a b; rfl
  | cons c l ih =>
    intro a b
    rw [reg_cons, reg_cons]
    have e : byteStep (a ^^^ b) c = byteStep a c ^^^ Sn 8 b := by
      rw [byteStep_eq, byteStep_eq, ← Sn_xor]; congr 1; ac_rfl
    rw [e, ih, List.length_cons, Nat.mul_add, Nat.mul_one, Nat.add_comm (8 * l.length) 8, Sn_add]

theorem not_xor (a b : BitVec 32) : ~~~ (a ^^^ b) = ~~~ a ^^^ b := by
  apply BitVec.eq_of_getLsbD_eq; intro i hi; simp [hi]

theorem sum_append (a b : List UInt8) : sum (a ++ b) = Sn (8 * b.length) (sum a) ^^^ sum b := by
  unfold sum
  rw [reg_append]
  have e : reg a (~~~ 0#32) = ~~~ 0#32 ^^^ ~~~ (reg a (~~~ 0#32)) := by
    apply BitVec.eq_of_getLsbD_eq; intro i hi; rw [BitVec.getLsbD_xor, BitVec.getLsbD_not, BitVec.getLsbD_not]; simp only [hi, decide_true, Bool.true_and, BitVec.getLsbD_zero, Bool.not_false]; cases (reg a (~~~ 0#32)).getLsbD i <;> rfl
  conv => lhs; rw [e]
  rw [reg_xor, not_xor]; ac_rfl

/-- Multiplying two polynomials modulo the generator; bit 31 is the coefficient of 1. 'prodTo k': the lowest k coefficients of a (bits 31, 30, ..) are done. -/
def prodTo : Nat → BitVec 32 → BitVec 32 → BitVec 32
  | 0, _, _ => 0#32
  | k + 1, a, b => prodTo k a b ^^^ (if a.getLsbD (31 - k) then Sn k b else 0#32)
def prod (a b : BitVec 32) : BitVec 32 := prodTo 32 a b

theorem S_if (c : Bool) (x : BitVec 32) : S (if c then x else 0#32) = if c then S x else 0#32 := by cases c <;> simp [S_zero]

theorem prodTo_S (k : Nat) (a b : BitVec 32) : prodTo k a (S b) = S (prodTo k a b) := by
  induction k with
  | zero => simp [prodTo, S_zero]
  | succ k ih => simp only [prodTo, ih, S_xor, S_if]; rw [← Sn_succ, ← Sn]

def one : BitVec 32 := 0x80000000#32

theorem Sn_one : ∀ k : Fin 32, Sn k.val one = 1#32 <<< (31 - k.val) := by decide

theorem prodTo_one (k : Nat) (hk : k ≤ 32) (a : BitVec 32) : ∀ i, i < 32 → (prodTo k a one).getLsbD i = (decide (32 ≤ i + k) && a.getLsbD i) := by
  induction k with
  | zero => intro i hi; simp [prodTo]; omega
  | succ k ih =>
    intro i hi
    simp only [prodTo]
    rw [BitVec.getLsbD_xor, ih (by omega) i hi]
    have h1 : Sn k one = 1#32 <<< (31 - k) := Sn_one ⟨k, by omega⟩
    rw [h1]
    have h2 : (if a.getLsbD (31 - k) then 1#32 <<< (31 - k) else 0#32).getLsbD i = (decide (i = 31 - k) && a.getLsbD i) := by
      by_cases hc : i = 31 - k
      · subst hc
        cases a.getLsbD (31 - k) <;> simp [BitVec.getLsbD_shiftLeft] <;> omega
      · have : ¬ (i = 31 - k) := hc
        by_cases hl : i < 31 - k
        · cases a.getLsbD (31 - k) <;> simp [BitVec.getLsbD_shiftLeft, hl, hc]
        · have : ¬ (i - (31 - k) = 0) := by omega
          cases a.getLsbD (31 - k) <;> simp [BitVec.getLsbD_shiftLeft, hl, hc, this]
    rw [h2]
    by_cases ha : 32 ≤ i + k
    · have : ¬ (i = 31 - k) := by omega
      have h3 : 32 ≤ i + (k + 1) := by omega
      simp [ha, this, h3]
    · by_cases hc : i = 31 - k
      · have h3 : 32 ≤ i + (k + 1) := by omega
        have h5 : decide (32 ≤ i + k) = false := by simpa using ha
        have h6 : decide (32 ≤ i + (k + 1)) = true := by simpa using h3
        have h7 : decide (i = 31 - k) = true := by simpa using hc
        rw [h5, h6, h7]; simp
      · have h3 : ¬ 32 ≤ i + (k + 1) := by omega
        simp [ha, hc, h3]

theorem prod_one (a : BitVec 32) : prod a one = a := by
  apply BitVec.eq_of_getLsbD_eq
  intro i hi
  unfold prod
  rw [prodTo_one 32 (by omega) a i hi]
  simp

theorem prod_Sn (k : Nat) (a : BitVec 32) : prod a (Sn k one) = Sn k a := by
  induction k with
  | zero => exact prod_one a
  | succ k ih => rw [Sn_succ, Sn_succ, ← ih]; exact prodTo_S 32 a _

/-- The loop of joining: fuel rounds. -/
def joinTo : Nat → BitVec 32 → BitVec 32 → Nat → BitVec 32
  | 0, a, _, _ => a
  | f + 1, a, p, n => if n = 0 then a else joinTo f (if n % 2 = 1 then prod a p else a) (prod p p) (n / 2)

theorem joinTo_eq (f : Nat) : ∀ (a : BitVec 32) (k n : Nat), n < 2 ^ f → joinTo f a (Sn k one) n = Sn (k * n) a := by
  induction f with
  | zero => intro a k n h; have : n = 0 := by simpa using h
            subst this; rfl
  | succ f ih =>
    intro a k n h
    unfold joinTo
    by_cases h0 : n = 0
    · subst h0; simp [Sn]
    · rw [if_neg h0, prod_Sn, prod_Sn, ← Sn_add, ih _ _ _ (by rw [Nat.pow_succ] at h; omega)]
      by_cases h1 : n % 2 = 1
      · rw [if_pos h1, ← Sn_add]
        congr 1
        have : n = 2 * (n / 2) + 1 := by omega
        conv => rhs; rw [this]
        rw [Nat.mul_add, Nat.add_mul, Nat.mul_one, Nat.mul_left_comm, Nat.two_mul]; omega
      · rw [if_neg h1]
        congr 1
        have : n = 2 * (n / 2) := by omega
        conv => rhs; rw [this]
        rw [Nat.add_mul, Nat.mul_left_comm, Nat.two_mul]

def join (a b : BitVec 32) (n : Nat) : BitVec 32 := Sn (8 * n) a ^^^ b

theorem start_eq : (0x800000#32 : BitVec 32) = Sn 8 one := by decide

theorem law_join (a b c : List UInt8) :
    sum (a ++ b ++ c) = join (join (sum a) (sum b) b.length) (sum c) c.length ∧
    join (join (sum a) (sum b) b.length) (sum c) c.length = join (sum a) (join (sum b) (sum c) c.length) (b.length + c.length) := by
  unfold join
  refine ⟨by rw [sum_append, sum_append], ?_⟩
  rw [Sn_xor, ← Sn_add, Nat.mul_add]; ac_rfl

/-- One bit of a string changed. -/
def flip (l : List UInt8) (k : Nat) : List UInt8 := l.set (k / 8) (l.getD (k / 8) 0 ^^^ UInt8.ofNat (2 ^ (k % 8)))

theorem flip_length (l : List UInt8) (k : Nat) : (flip l k).length = l.length := by simp [flip]

theorem ofNat_xor (a b : UInt8) : BitVec.ofNat 32 (a ^^^ b).toNat = BitVec.ofNat 32 a.toNat ^^^ BitVec.ofNat 32 b.toNat := by
  rw [UInt8.toNat_xor, BitVec.ofNat_xor]

theorem reg_set (l : List UInt8) : ∀ (j : Nat) (m : UInt8) (r : BitVec 32), j < l.length →
    reg (l.set j (l.getD j 0 ^^^ m)) r = reg l r ^^^ Sn (8 * (l.length - j)) (BitVec.ofNat 32 m.toNat) := by
  induction l with
  | nil => intro j m r h; simp at h
  | cons c l ih =>
    intro j m r h
    cases j with
    | zero =>
      rw [List.set_cons_zero, reg_cons, reg_cons]
      have e : byteStep r ((c :: l).getD 0 0 ^^^ m) = byteStep r c ^^^ Sn 8 (BitVec.ofNat 32 m.toNat) := by
        rw [byteStep_eq, byteStep_eq, ← Sn_xor]; congr 1
        simp only [List.getD_cons_zero, ofNat_xor]; ac_rfl
      rw [e, reg_xor, ← Sn_add]; congr 2; simp; omega
    | succ j =>
      rw [List.set_cons_succ, reg_cons, reg_cons]
      have := ih j m (byteStep r c) (by simpa using h)
      simp only [List.getD_cons_succ, List.length_cons, Nat.add_sub_add_right] at this ⊢
      exact this

theorem Sn_bit : ∀ i : Fin 32, Sn i.val (1#32 <<< i.val) = 1#32 := by decide

theorem Sn_shift (n i : Nat) (hi : i < 32) (h : i ≤ n) : Sn n (1#32 <<< i) = Sn (n - i) 1#32 := by
  have e : n = i + (n - i) := by omega
  conv => lhs; rw [e]
  rw [Sn_add, Sn_bit ⟨i, hi⟩]

theorem bit_ofNat : ∀ i : Fin 8, BitVec.ofNat 32 (UInt8.ofNat (2 ^ i.val)).toNat = 1#32 <<< i.val := by decide

theorem reg_flip (l : List UInt8) (k : Nat) (r : BitVec 32) (h : k < 8 * l.length) :
    reg (flip l k) r = reg l r ^^^ Sn (8 * l.length - k) 1#32 := by
  unfold flip
  rw [reg_set _ _ _ _ (by omega), bit_ofNat ⟨k % 8, by omega⟩]
  simp only
  rw [Sn_shift _ _ (by omega) (by omega)]
  congr 2; omega

/-- The bits of a burst, as far as they lie within the string, are changed: the first i of them. -/
def flipTo (s : List UInt8) (p : Nat) (burst : BitVec 32) : Nat → List UInt8
  | 0 => s
  | i + 1 => if burst.getLsbD i = true ∧ p + i < 8 * s.length then flip (flipTo s p burst i) (p + i) else flipTo s p burst i
def changedTo (n p : Nat) (burst : BitVec 32) : Nat → Bool
  | 0 => false
  | i + 1 => if burst.getLsbD i = true ∧ p + i < n then true else changedTo n p burst i
def maskTo (n p : Nat) (burst : BitVec 32) : Nat → BitVec 32
  | 0 => 0#32
  | i + 1 => if burst.getLsbD i = true ∧ p + i < n then maskTo n p burst i ^^^ (1#32 <<< i) else maskTo n p burst i

theorem flipTo_length (s : List UInt8) (p : Nat) (burst : BitVec 32) (i : Nat) : (flipTo s p burst i).length = s.length := by
  induction i with
  | zero => rfl
  | succ i ih => simp only [flipTo]; split <;> simp [flip_length, ih]

theorem reg_flipTo (s : List UInt8) (p : Nat) (burst : BitVec 32) (r : BitVec 32) (i : Nat) (hi : i ≤ 32) :
    reg (flipTo s p burst i) r = reg s r ^^^ Sn (8 * s.length - p) (maskTo (8 * s.length) p burst i) := by
  induction i with
  | zero => simp [flipTo, maskTo, Sn_zero]
  | succ i ih =>
    simp only [flipTo, maskTo]
    by_cases h : burst.getLsbD i = true ∧ p + i < 8 * s.length
    · rw [if_pos h, if_pos h, reg_flip _ _ _ (by rw [flipTo_length]; exact h.2), ih (by omega), flipTo_length, Sn_xor, BitVec.xor_assoc,
        Sn_shift _ i (by omega) (by omega)]
      congr 3; omega
    · rw [if_neg h, if_neg h, ih (by omega)]

theorem maskTo_bit (n p : Nat) (burst : BitVec 32) (i : Nat) (hi : i ≤ 32) : ∀ j, j < 32 → i ≤ j → (maskTo n p burst i).getLsbD j = false := by
  induction i with
  | zero => intro j _ _; simp [maskTo]
  | succ i ih =>
    intro j hj h
    simp only [maskTo]
    split
    · rw [BitVec.getLsbD_xor, ih (by omega) j hj (by omega), BitVec.getLsbD_shiftLeft]
      have : ¬ (j - i = 0) := by omega
      simp [this]
    · exact ih (by omega) j hj (by omega)

theorem maskTo_ne (n p : Nat) (burst : BitVec 32) (i : Nat) (hi : i ≤ 32) : changedTo n p burst i = true → maskTo n p burst i ≠ 0#32 := by
  induction i with
  | zero => intro h; simp [changedTo] at h
  | succ i ih =>
    intro h
    simp only [changedTo, maskTo] at h ⊢
    by_cases hc : burst.getLsbD i = true ∧ p + i < n
    · rw [if_pos hc]
      intro e
      have h1 : (maskTo n p burst i ^^^ 1#32 <<< i).getLsbD i = false := by rw [e]; simp
      rw [BitVec.getLsbD_xor, maskTo_bit n p burst i (by omega) i (by omega) (Nat.le_refl _), BitVec.getLsbD_shiftLeft] at h1
      have : i < 32 := by omega
      simp [this] at h1
    · rw [if_neg hc] at h ⊢; exact ih (by omega) h

theorem law_bursts (s : List UInt8) (p : Nat) (burst : BitVec 32) (h : changedTo (8 * s.length) p burst 32 = true) :
    sum (flipTo s p burst 32) ≠ sum s := by
  intro e
  unfold sum at e
  rw [BitVec.not_inj, reg_flipTo _ _ _ _ 32 (by omega)] at e
  have e2 : Sn (8 * s.length - p) (maskTo (8 * s.length) p burst 32) = 0#32 := by
    have h2 := congrArg (fun x => reg s (~~~ 0#32) ^^^ x) e
    rw [← BitVec.xor_assoc, BitVec.xor_self, BitVec.zero_xor] at h2
    exact h2
  exact maskTo_ne _ _ _ 32 (by omega) h (Sn_inj0 _ _ e2)

end Go.Proofs.YtdibgloaknnfgaaDoor.Crc
