/- What Print writes of a token is read as it again, in plain words. -/
import Derived.Test.YtenhaohooknkfaaDoorTokScan
import Derived.Lib.ItoaNum
namespace Go.Proofs.YtenhaohooknkfaaDoor
namespace Tk
/-! Decimal digits. -/
theorem dig_fin : ∀ d : Fin 10, digit (UInt8.ofNat (48 + d.val)) = true ∧ (UInt8.ofNat (48 + d.val)).toNat = 48 + d.val := by decide +kernel
theorem dig_of {d : Nat} (h : d < 10) : digit (UInt8.ofNat (48 + d)) = true ∧ (UInt8.ofNat (48 + d)).toNat - 48 = d := by
  have := dig_fin ⟨d, h⟩
  exact ⟨this.1, by have := this.2; dsimp only at this; omega⟩
theorem natV_snoc (a : Src) (c : UInt8) : natV (a ++ [c]) = natV a * 10 + (c.toNat - 48) := by
  unfold natV; rw [List.foldl_append]; rfl
theorem dec_all (u : Nat) : (∀ c ∈ Lib.decDigits u, digit c = true) ∧ natV (Lib.decDigits u) = u ∧ Lib.decDigits u ≠ [] := by
  induction u using Nat.strongRecOn with
  | _ u ih =>
    by_cases h : u < 10
    · rw [Lib.decDigits, dif_pos h]
      refine ⟨fun c hc => ?_, ?_, by simp⟩
      · rw [List.mem_singleton] at hc; subst hc; exact (dig_of h).1
      · show 0 * 10 + _ = u
        have := (dig_of h).2
        omega
    · rw [Lib.decDigits, dif_neg h]
      obtain ⟨a, b, c⟩ := ih (u / 10) (by omega)
      have hm : u % 10 < 10 := Nat.mod_lt _ (by decide)
      refine ⟨fun c hc => ?_, ?_, by simp⟩
      · rw [List.mem_append, List.mem_singleton] at hc
        rcases hc with hc | rfl
        · exact a c hc
        · exact (dig_of hm).1
      · rw [natV_snoc, b, (dig_of hm).2]; omega
theorem dec_len : ∀ (k u : Nat), u < 10 ^ (k + 1) → (Lib.decDigits u).length ≤ k + 1
  | 0, u, h => by rw [Lib.decDigits, dif_pos (by simpa using h)]; simp
  | k + 1, u, h => by
    by_cases h1 : u < 10
    · rw [Lib.decDigits, dif_pos h1]; simp
    · rw [Lib.decDigits, dif_neg h1, List.length_append, List.length_singleton]
      have := dec_len k (u / 10) (by rw [Nat.pow_succ] at h; omega)
      omega
theorem dec_head (u : Nat) (h : 1 ≤ u) : (Lib.decDigits u).head? ≠ some 48 := by
  induction u using Nat.strongRecOn with
  | _ u ih =>
    by_cases h1 : u < 10
    · rw [Lib.decDigits, dif_pos h1]
      have : ∀ d : Fin 10, 1 ≤ d.val → UInt8.ofNat (48 + d.val) ≠ 48 := by decide +kernel
      intro e
      exact this ⟨u, h1⟩ h (by simpa using e)
    · rw [Lib.decDigits, dif_neg h1]
      have h2 := ih (u / 10) (by omega) (by omega)
      obtain ⟨_, _, hne⟩ := dec_all (u / 10)
      cases hd : Lib.decDigits (u / 10) with
      | nil => exact absurd hd hne
      | cons x r => rw [hd] at h2; exact h2
theorem digit_regular {c : UInt8} (h : digit c = true) : regular c = true := signB_regular (by unfold signB; rw [h]; simp)
theorem digit_plain {c : UInt8} (h : digit c = true) : white c = false ∧ c ≠ 37 ∧ c ≠ 43 ∧ c ≠ 45 := by
  have := u8_all (fun x => !digit x || (!white x && x != 37 && x != 43 && x != 45)) (by decide +kernel) c
  rw [h] at this
  simpa [and_assoc] using this
theorem all_digit {l : Src} (h : ∀ c ∈ l, digit c = true) : l.all digit = true := List.all_eq_true.2 h
theorem int_dec (u : Nat) (h : u ≤ 2147483647) : integer (Lib.decDigits u) = .ok (u : Int) := by
  obtain ⟨a, b, c⟩ := dec_all u
  have hl := dec_len 9 u (by omega)
  cases hd : Lib.decDigits u with
  | nil => exact absurd hd c
  | cons x r =>
    rw [hd] at a b hl
    have hx := digit_plain (a x (by simp))
    have hs : signed (x :: r) = false := by unfold signed; simp [hx.2.2.1, hx.2.2.2]
    have hv : intV (x :: r) = (u : Int) := by unfold intV; simp [hx.2.2.1, hx.2.2.2, b]
    have hg : digs (x :: r) = x :: r := by unfold digs; rw [hs]; rfl
    unfold integer
    rw [hg, if_neg, hv, if_neg (by omega)]
    rintro (h1 | h1 | h1)
    · simp at h1
    · omega
    · rw [all_digit a] at h1; cases h1
theorem int_itoa (n : Int) (h1 : -2147483647 ≤ n) (h2 : n ≤ 2147483647) : integer (Lib.itoa n) = .ok n := by
  by_cases hn : n < 0
  · unfold Lib.itoa
    rw [if_pos hn]
    obtain ⟨a, b, c⟩ := dec_all n.natAbs
    have hl := dec_len 9 n.natAbs (by omega)
    have hc : (Lib.decDigits n.natAbs).length ≠ 0 := fun e => c (List.eq_nil_of_length_eq_zero e)
    have hv : intV (45 :: Lib.decDigits n.natAbs) = n := by
      show -(natV (Lib.decDigits n.natAbs) : Int) = n
      rw [b]; omega
    have hg : digs (45 :: Lib.decDigits n.natAbs) = Lib.decDigits n.natAbs := rfl
    unfold integer
    rw [hg, if_neg, hv, if_neg (by omega)]
    rintro (e | e | e)
    · exact hc e
    · omega
    · rw [all_digit a] at e; cases e
  · obtain ⟨u, rfl⟩ : ∃ u : Nat, n = (u : Int) := ⟨n.toNat, by omega⟩
    have : Lib.itoa (u : Int) = Lib.decDigits u := by unfold Lib.itoa; rw [if_neg hn]; rfl
    rw [this]; exact int_dec u (by omega)
theorem ref_dec (u : Nat) (h1 : 1 ≤ u) (h2 : u ≤ 255) : reference (Lib.decDigits u) = .ok (u : Int) := by
  obtain ⟨a, b, c⟩ := dec_all u
  have hl := dec_len 2 u (by omega)
  unfold reference
  rw [if_neg, b, if_neg (by omega)]
  rintro (e | e | e | e)
  · exact c (List.eq_nil_of_length_eq_zero e)
  · omega
  · exact dec_head u h1 e.1
  · rw [all_digit a] at e; cases e
/-- What an integer is written as. -/
theorem itoa_shape (n : Int) : ∃ x r, Lib.itoa n = x :: r ∧ signB x = true ∧ ∀ c ∈ Lib.itoa n, regular c = true := by
  unfold Lib.itoa
  split
  · refine ⟨45, _, rfl, rfl, fun c hc => ?_⟩
    rcases List.mem_cons.1 hc with rfl | hc
    · decide
    · exact digit_regular ((dec_all _).1 c hc)
  · obtain ⟨a, _, c⟩ := dec_all n.toNat
    cases hd : Lib.decDigits n.toNat with
    | nil => exact absurd hd c
    | cons x r =>
      rw [hd] at a
      refine ⟨x, r, rfl, by unfold signB; rw [a x (by simp)]; simp, fun c hc => digit_regular (a c hc)⟩
/-! Names. -/
theorem hex_name (x : UInt8) : pairV [hexC (x >>> 4), hexC (x &&& 15)] = some x := by
  have := u8_all (fun x => pairV [hexC (x >>> 4), hexC (x &&& 15)] == some x) (by decide +kernel) x
  simpa using this
theorem pair_app {a b : UInt8} {q : Src} : pairV (a :: b :: q) = pairV [a, b] := rfl
theorem plain_name {x : UInt8} (h : plainName x = true) : regular x = true ∧ x ≠ 35 ∧ (decide (x < 33) || decide (126 < x)) = false := by
  have := u8_all (fun x => !plainName x || (regular x && x != 35 && !(decide (x < 33) || decide (126 < x)))) (by decide +kernel) x
  rw [h] at this
  simpa [and_assoc] using this
theorem hexC_regular (x : UInt8) : regular (hexC (x >>> 4)) = true ∧ regular (hexC (x &&& 15)) = true := by
  have := u8_all (fun x => regular (hexC (x >>> 4)) && regular (hexC (x &&& 15))) (by decide +kernel) x
  simpa using this
def prNB (x : UInt8) : Src := if plainName x then [x] else [35, hexC (x >>> 4), hexC (x &&& 15)]
theorem prName_cons (x : UInt8) (t : Src) : prName (x :: t) = prNB x ++ prName t := rfl
theorem prName_regular : ∀ (t : Src), ∀ c ∈ prName t, regular c = true
  | [], c, h => by cases h
  | x :: t, c, h => by
    rw [prName_cons, List.mem_append] at h
    rcases h with h | h
    · unfold prNB at h
      split at h
      · rename_i hp
        rw [List.mem_singleton] at h; subst h; exact (plain_name hp).1
      · simp only [List.mem_cons, List.not_mem_nil, or_false] at h
        rcases h with rfl | rfl | rfl
        · decide
        · exact (hexC_regular x).1
        · exact (hexC_regular x).2
    · exact prName_regular t c h
theorem nameF_pr : ∀ (t : Src) (f : Nat) (acc : Src), (∀ c ∈ t, c ≠ 0) → (prName t).length < f → nameF f (prName t) acc = .ok (acc ++ t)
  | [], f, acc, _, hf => by
    obtain ⟨g, rfl⟩ : ∃ g, f = g + 1 := ⟨f - 1, by omega⟩
    show Except.ok acc = _
    rw [List.append_nil]
  | x :: t, f, acc, h0, hf => by
    obtain ⟨g, rfl⟩ : ∃ g, f = g + 1 := ⟨f - 1, by omega⟩
    rw [prName_cons, List.length_append] at hf
    rw [prName_cons]
    unfold prNB at hf ⊢
    have hx0 : (x == 0) = false := by simpa using h0 x (by simp)
    have ih := fun g hg => nameF_pr t g (acc ++ [x]) (fun c hc => h0 c (by simp [hc])) hg
    rw [List.append_assoc] at ih
    split
    · rename_i hp
      rw [if_pos hp] at hf
      obtain ⟨p1, p2, p3⟩ := plain_name hp
      rw [List.cons_append, List.nil_append]
      simp only [nameF]
      rw [if_neg (by simpa using p2), if_neg (by rw [p3]; decide), ih g (by simp at hf; omega)]
      rfl
    · rename_i hp
      rw [if_neg hp] at hf
      simp only [List.cons_append, List.nil_append, nameF]
      rw [if_pos (by decide), pair_app, hex_name]
      dsimp only
      rw [hx0, if_neg (by decide)]
      show nameF g (prName t) _ = _
      rw [ih g (by simp at hf; omega)]; rfl
theorem prName_len (t : Src) : t.length ≤ (prName t).length := by
  induction t with
  | nil => exact Nat.le_refl _
  | cons x t ih =>
    rw [prName_cons, List.length_append, List.length_cons]
    have : 1 ≤ (prNB x).length := by unfold prNB; split <;> simp
    omega
theorem name_pr {t : Src} (h0 : t ≠ []) (h1 : t.length ≤ 31) (h2 : ∀ c ∈ t, c ≠ 0) : nameW (prName t) = .ok t := by
  unfold nameW
  rw [nameF_pr t _ [] h2 (by omega)]
  dsimp only
  rw [List.nil_append, if_neg (fun e => h0 (List.eq_nil_of_length_eq_zero e)), if_neg (by omega)]
/-! Strings. -/
theorem prB_cases (x : UInt8) : (∃ y, prByte x = [92, y] ∧ ∀ q, esc (y :: q) = .ok ([x], 1)) ∨ (∃ a b, prByte x = [92, 120, a, b] ∧ pairV [a, b] = some x) ∨ (prByte x = [x] ∧ x ≠ 92 ∧ x ≠ 40 ∧ x ≠ 41) := by
  unfold prByte
  by_cases h1 : x = 10
  · subst h1; exact .inl ⟨110, rfl, fun q => rfl⟩
  rw [if_neg (by simpa using h1)]
  by_cases h2 : x = 9
  · subst h2; exact .inl ⟨116, rfl, fun q => rfl⟩
  rw [if_neg (by simpa using h2)]
  by_cases h3 : x = 40 ∨ x = 41 ∨ x = 92
  · rw [if_pos (by simpa [or_assoc] using h3)]
    refine .inl ⟨x, rfl, fun q => ?_⟩
    rcases h3 with rfl | rfl | rfl <;> rfl
  rw [if_neg (by simpa [or_assoc] using h3)]
  by_cases h4 : (decide (x < 32) || decide (125 < x)) = true
  · rw [if_pos h4]
    exact .inr (.inl ⟨_, _, rfl, hex_name x⟩)
  · rw [if_neg h4]
    exact .inr (.inr ⟨rfl, fun e => h3 (.inr (.inr e)), fun e => h3 (.inl e), fun e => h3 (.inr (.inl e))⟩)
theorem textF_pr : ∀ (t : Src) (f : Nat) (acc : Src) (n : Nat) (b : Src), acc.length + t.length ≤ 1024 → (t.flatMap prByte).length + 1 < f →
    textF f 1 (t.flatMap prByte ++ 41 :: b) acc n = .ok (acc ++ t, n + (t.flatMap prByte).length + 1)
  | [], f, acc, n, b, hl, hf => by
    obtain ⟨g, rfl⟩ : ∃ g, f = g + 1 := ⟨f - 1, by omega⟩
    show textF (g + 1) 1 (41 :: b) acc n = _
    simp only [textF]
    rw [if_neg (by decide), if_neg (by decide), if_pos (by decide), if_pos trivial]
    unfold limited
    rw [if_neg (by simp at hl; omega)]
    simp
  | x :: t, f, acc, n, b, hl, hf => by
    obtain ⟨g, rfl⟩ : ∃ g, f = g + 1 := ⟨f - 1, by omega⟩
    rw [List.flatMap_cons, List.length_append] at hf ⊢
    rw [show (prByte x ++ t.flatMap prByte) ++ 41 :: b = prByte x ++ (t.flatMap prByte ++ 41 :: b) from List.append_assoc _ _ _]
    have hl' : (acc ++ [x]).length + t.length ≤ 1024 := by simp at hl ⊢; omega
    rcases prB_cases x with ⟨y, e1, e2⟩ | ⟨a, c, e1, e2⟩ | ⟨e1, h1, h2, h3⟩
    · rw [e1] at hf ⊢
      show textF (g + 1) 1 (92 :: (y :: (t.flatMap prByte ++ 41 :: b))) acc n = _
      simp only [textF]
      rw [if_pos (by decide), e2]
      dsimp only
      rw [List.drop_succ_cons, List.drop_zero, textF_pr t g _ _ b hl' (by simp only [List.length_cons, List.length_nil] at hf; omega), List.append_assoc]
      simp only [List.length_cons, List.length_nil, List.singleton_append]
      congr 2
      omega
    · rw [e1] at hf ⊢
      show textF (g + 1) 1 (92 :: (120 :: a :: c :: (t.flatMap prByte ++ 41 :: b))) acc n = _
      have he : esc (120 :: a :: c :: (t.flatMap prByte ++ 41 :: b)) = .ok ([x], 3) := by
        have e : ∀ r : Src, esc (120 :: r) = match pairV r with | some v => .ok ([v], 3) | none => .error 5 := fun r => rfl
        rw [e, pair_app, e2]
      simp only [textF]
      rw [if_pos (by decide), he]
      dsimp only
      show textF g 1 (t.flatMap prByte ++ 41 :: b) _ _ = _
      rw [textF_pr t g _ _ b hl' (by simp only [List.length_cons, List.length_nil] at hf; omega), List.append_assoc]
      simp only [List.length_cons, List.length_nil, List.singleton_append]
      congr 2
      omega
    · rw [e1] at hf ⊢
      show textF (g + 1) 1 (x :: (t.flatMap prByte ++ 41 :: b)) acc n = _
      simp only [textF]
      rw [if_neg (by simpa using h1), if_neg (by simpa using h2), if_neg (by simpa using h3), textF_pr t g _ _ b hl' (by simp only [List.length_cons, List.length_nil] at hf; omega), List.append_assoc]
      simp only [List.length_cons, List.length_nil, List.singleton_append]
      congr 2
      omega
theorem text_pr {t b : Src} (h : t.length ≤ 1024) : text (t.flatMap prByte ++ 41 :: b) = .ok (t, (t.flatMap prByte).length + 1) := by
  unfold text
  rw [textF_pr t _ [] 0 b (by simpa using h) (by rw [List.length_append, List.length_cons]; omega)]
  simp
end Tk
end Go.Proofs.YtenhaohooknkfaaDoor
