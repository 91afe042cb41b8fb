/- The archive in plain words: pieces, names, what each call makes of them. No program is in sight here. -/
import Derived.WalkKit
namespace Go.Proofs.YtpfkmjckjomeeaaDoor
namespace Crc
def T : List Nat := [0, 498536548, 997073096, 651767980, 1994146192, 1802195444, 1303535960, 1342533948, 3988292384, 4027552580, 3604390888, 3412177804, 2607071920, 2262029012, 2685067896, 3183342108]
def N (r : BitVec 32) : BitVec 32 := (r >>> 4) ^^^ BitVec.ofNat 32 (T.getD (r.toNat % 16) 0)
def byteStep (r : BitVec 32) (c : UInt8) : BitVec 32 := N (N (r ^^^ BitVec.ofNat 32 c.toNat))
def reg (l : List UInt8) (r : BitVec 32) : BitVec 32 := l.foldl byteStep r
def sum (l : List UInt8) : BitVec 32 := ~~~ (reg l (~~~ 0#32))
theorem reg_append (a b : List UInt8) (r : BitVec 32) : reg (a ++ b) r = reg b (reg a r) := by simp [reg]
end Crc
theorem bytes_beq (a b : ByteArray) : (a == b) = decide (a = b) := by
  cases a with | mk a => cases b with | mk b =>
  show (a == b) = _
  rw [Bool.eq_iff_iff]; simp
instance : LawfulBEq ByteArray where
  eq_of_beq {a b} h := by rw [bytes_beq] at h; exact of_decide_eq_true h
  rfl {a} := by rw [bytes_beq]; simp
namespace Arc
/-- The checksum of a string. -/
def key (s : ByteArray) : BitVec 32 := Crc.sum s.data.toList
/-! Cutting. -/
/-- The rolling sum behind i bytes: the walk's own words. -/
def dropTo : Nat → Int
  | 0 => 1
  | n + 1 => dropTo n * 31 % 4294967296
def hashTo (l : List UInt8) : Nat → Int
  | 0 => 0
  | i + 1 =>
    let h := (hashTo l i * 31 + ((l.getD i 0).toNat : Int) + 1) % 4294967296
    if 16 ≤ i then (h - dropTo 16 * (((l.getD (i - 16) 0).toNat : Int) + 1) % 4294967296) % 4294967296 else h
/-- Is there a cut behind i bytes? -/
def stop (l : List UInt8) (i : Nat) : Bool := decide (256 ≤ i) || (decide (32 ≤ i) && (hashTo l i / 67108864 == 0))
def cutTo (l : List UInt8) : Nat → Nat → Nat
  | 0, i => i
  | k + 1, i => if stop l (i + 1) then i + 1 else cutTo l k (i + 1)
def cutN (l : List UInt8) : Nat := cutTo l l.length 0
theorem cutTo_le (l : List UInt8) (k i : Nat) : i ≤ cutTo l k i ∧ cutTo l k i ≤ i + k := by
  induction k generalizing i with
  | zero => simp [cutTo]
  | succ k ih =>
    unfold cutTo; split
    · omega
    · have := ih (i + 1); omega
theorem cutTo_max (l : List UInt8) (k i : Nat) (hi : i < 256) : cutTo l k i ≤ 256 := by
  induction k generalizing i with
  | zero => simp [cutTo]; omega
  | succ k ih =>
    unfold cutTo; split
    · omega
    · rename_i h
      by_cases h2 : i + 1 < 256
      · exact ih (i + 1) h2
      · exfalso; apply h; unfold stop; rw [decide_eq_true (by omega)]; rfl
theorem cutTo_min (l : List UInt8) (k i : Nat) : 32 ≤ cutTo l k i ∨ cutTo l k i = i + k := by
  induction k generalizing i with
  | zero => right; simp [cutTo]
  | succ k ih =>
    unfold cutTo; split
    · rename_i h
      left
      unfold stop at h
      by_cases h1 : 256 ≤ i + 1
      · omega
      · rw [decide_eq_false h1] at h
        by_cases h2 : 32 ≤ i + 1
        · exact h2
        · rw [decide_eq_false h2] at h; simp at h
    · have := ih (i + 1); omega
theorem cutN_pos {l : List UInt8} (h : 0 < l.length) : 1 ≤ cutN l ∧ cutN l ≤ l.length ∧ cutN l ≤ 256 ∧ (32 ≤ cutN l ∨ cutN l = l.length) := by
  have h1 := cutTo_le l l.length 0
  have h2 := cutTo_max l l.length 0 (by omega)
  have h3 := cutTo_min l l.length 0
  unfold cutN
  obtain ⟨n, hn⟩ : ∃ n, l.length = n + 1 := ⟨l.length - 1, by omega⟩
  have h4 : 1 ≤ cutTo l l.length 0 := by
    rw [hn]; unfold cutTo; split
    · omega
    · have := cutTo_le l n (0 + 1); omega
  omega
/-- The lengths of the pieces. -/
def cutsTo : Nat → ByteArray → List Nat
  | 0, _ => []
  | k + 1, s => if s.size = 0 then [] else cutN s.data.toList :: cutsTo k (s.extract (cutN s.data.toList) s.size)
def cuts (s : ByteArray) : List Nat := cutsTo s.size s
theorem size_rest (s : ByteArray) (n : Nat) : (s.extract n s.size).size = s.size - n := by simp
theorem cutsTo_enough (s : ByteArray) (k : Nat) (h : s.size ≤ k) : cutsTo k s = cuts s := by
  have key : ∀ n k (s : ByteArray), s.size ≤ n → n ≤ k → cutsTo k s = cutsTo n s := by
    intro n
    induction n with
    | zero =>
      intro k s h _
      cases k with
      | zero => rfl
      | succ k => unfold cutsTo; rw [if_pos (by omega)]
    | succ n ih =>
      intro k s h hk
      cases k with
      | zero => omega
      | succ k =>
        unfold cutsTo
        split
        · rfl
        · rename_i h0
          have := cutN_pos (l := s.data.toList) (by simp; omega)
          rw [ih k _ (by rw [size_rest]; omega) (by omega)]
  exact key s.size k s (Nat.le_refl _) h
theorem cuts_nil {s : ByteArray} (h : s.size = 0) : cuts s = [] := by unfold cuts; rw [h]; rfl
theorem cuts_cons {s : ByteArray} (h : 0 < s.size) : cuts s = cutN s.data.toList :: cuts (s.extract (cutN s.data.toList) s.size) := by
  have hp := cutN_pos (l := s.data.toList) (by simpa using h)
  conv => lhs; rw [← cutsTo_enough s (s.size + 1) (by omega)]
  rw [cutsTo, if_neg (by omega), cutsTo_enough _ _ (by rw [size_rest]; omega)]
/-- The rest of a string behind the first j pieces; and the pieces. -/
def rest : List Nat → ByteArray → Nat → ByteArray
  | _, s, 0 => s
  | [], s, _ + 1 => s
  | n :: r, s, j + 1 => rest r (s.extract n s.size) j
def split : List Nat → ByteArray → List ByteArray
  | [], _ => []
  | n :: r, s => s.extract 0 n :: split r (s.extract n s.size)
def parts (s : ByteArray) : List ByteArray := split (cuts s) s
theorem split_length (l : List Nat) (s : ByteArray) : (split l s).length = l.length := by
  induction l generalizing s with
  | nil => rfl
  | cons n r ih => simp [split, ih]
theorem rest_succ (l : List Nat) (s : ByteArray) (j : Nat) (h : j < l.length) : rest l s (j + 1) = (rest l s j).extract (l.getD j 0) (rest l s j).size := by
  induction l generalizing s j with
  | nil => simp at h
  | cons n r ih =>
    cases j with
    | zero => cases r <;> rfl
    | succ j => exact ih (s.extract n s.size) j (by simpa using h)
theorem split_get (l : List Nat) (s : ByteArray) (j : Nat) (h : j < l.length) : (split l s)[j]? = some ((rest l s j).extract 0 (l.getD j 0)) := by
  induction l generalizing s j with
  | nil => simp at h
  | cons n r ih =>
    cases j with
    | zero => rfl
    | succ j => exact ih (s.extract n s.size) j (by simpa using h)
theorem rest_cuts (s : ByteArray) (j : Nat) (h : j ≤ (cuts s).length) : cuts (rest (cuts s) s j) = (cuts s).drop j := by
  induction j generalizing s with
  | zero => cases h' : cuts s <;> simp [rest, h']
  | succ j ih =>
    by_cases h0 : s.size = 0
    · rw [cuts_nil h0] at h; simp at h
    · have hc := cuts_cons (s := s) (by omega)
      rw [hc] at h ⊢
      simp only [rest, List.drop_succ_cons]
      exact ih _ (by simpa using h)
/-- Lengths of pieces: at least one byte, within what is left. -/
theorem cuts_get {s : ByteArray} {j : Nat} (h : j < (cuts s).length) : 1 ≤ (cuts s).getD j 0 ∧ (cuts s).getD j 0 ≤ (rest (cuts s) s j).size ∧ (cuts s).getD j 0 ≤ 256 ∧ (32 ≤ (cuts s).getD j 0 ∨ j + 1 = (cuts s).length) := by
  induction j generalizing s with
  | zero =>
    by_cases h0 : s.size = 0
    · rw [cuts_nil h0] at h; simp at h
    · have hp := cutN_pos (l := s.data.toList) (by simp; omega)
      have hc := cuts_cons (s := s) (by omega)
      have hr : rest (cuts s) s 0 = s := by cases cuts s <;> rfl
      rw [hr]
      rw [hc]
      simp only [Array.length_toList, ByteArray.size_data] at hp
      refine ⟨hp.1, hp.2.1, hp.2.2.1, ?_⟩
      rcases hp.2.2.2 with h2 | h2
      · left; exact h2
      · right
        have hz : (s.extract (cutN s.data.toList) s.size).size = 0 := by rw [size_rest]; omega
        rw [cuts_nil hz]; rfl
  | succ j ih =>
    by_cases h0 : s.size = 0
    · rw [cuts_nil h0] at h; simp at h
    · have hc := cuts_cons (s := s) (by omega)
      rw [hc] at h ⊢
      have := ih (s := s.extract (cutN s.data.toList) s.size) (by simpa using h)
      simpa [rest] using this
theorem rest_end (s : ByteArray) : (rest (cuts s) s (cuts s).length).size = 0 := by
  have h := rest_cuts s (cuts s).length (Nat.le_refl _)
  rw [List.drop_length] at h
  by_cases h0 : (rest (cuts s) s (cuts s).length).size = 0
  · exact h0
  · rw [cuts_cons (by omega)] at h; cases h
/-- The pieces, one behind the other, are the string. -/
def cat (l : List ByteArray) : List UInt8 := l.flatMap fun s => s.data.toList
theorem ext_data (s : ByteArray) (a b : Nat) : (s.extract a b).data.toList = (s.data.toList.take b).drop a := by
  rw [ByteArray.data_extract, Array.toList_extract, List.extract_eq_take_drop, List.drop_take]
theorem parts_cat (s : ByteArray) : cat (parts s) = s.data.toList := by
  have key : ∀ n (s : ByteArray), s.size ≤ n → cat (split (cuts s) s) = s.data.toList := by
    intro n
    induction n with
    | zero =>
      intro s h
      rw [cuts_nil (by omega)]
      have : s.data.toList.length = 0 := by rw [Array.length_toList, ByteArray.size_data]; omega
      rw [List.length_eq_zero_iff.1 this]; rfl
    | succ n ih =>
      intro s h
      by_cases h0 : s.size = 0
      · rw [cuts_nil h0]
        have : s.data.toList.length = 0 := by rw [Array.length_toList, ByteArray.size_data]; omega
        rw [List.length_eq_zero_iff.1 this]; rfl
      · have hp := cutN_pos (l := s.data.toList) (by simp; omega)
        simp only [Array.length_toList, ByteArray.size_data] at hp
        rw [cuts_cons (by omega)]
        simp only [split, cat, List.flatMap_cons]
        have := ih (s.extract (cutN s.data.toList) s.size) (by rw [size_rest]; omega)
        unfold cat at this
        rw [this, ext_data, ext_data, List.drop_zero]
        have e : s.data.toList.take s.size = s.data.toList := List.take_of_length_le (by simp)
        rw [e, List.take_append_drop]
  exact key s.size s (Nat.le_refl _)
theorem parts_pos {s p : ByteArray} (h : p ∈ parts s) : 1 ≤ p.size ∧ p.size ≤ 256 := by
  unfold parts at h
  obtain ⟨j, hj⟩ := List.getElem?_of_mem h
  have hl : j < (cuts s).length := by
    have := (List.getElem?_eq_some_iff.1 hj).1; rw [split_length] at this; exact this
  rw [split_get _ _ _ hl] at hj
  obtain ⟨a, b, c, _⟩ := cuts_get hl
  rw [← Option.some.inj hj]
  rw [ByteArray.size_extract]; omega
end Arc
end Go.Proofs.YtpfkmjckjomeeaaDoor
