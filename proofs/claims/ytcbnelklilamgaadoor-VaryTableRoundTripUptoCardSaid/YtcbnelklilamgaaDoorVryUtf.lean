/- What the model's decoding of a text says of bytes above 127, and the encoding of a rune above 127. No program is in sight here. -/
import Derived.Laws.RangeString
namespace Go.Proofs.YtcbnelklilamgaaDoor
namespace Vr
theorem get_eq (s : ByteArray) (i : Nat) (h : i < s.size) : s.get! i = s[i]'h := by
  simp [ByteArray.get!, getElem!_pos, h]
  rfl
/-- A rune that begins with a byte above 127: it is above 127 itself, and covers bytes above 127 alone. -/
theorem dec_high (s : ByteArray) (i : Nat) (h : i < s.size) (hb : 128 ≤ (s[i]'h).toNat) :
    128 ≤ (Utf8.decode s i).1 ∧ Utf8.valid (Utf8.decode s i).1 = true ∧ 1 ≤ (Utf8.decode s i).2 ∧ i + (Utf8.decode s i).2 ≤ s.size ∧ ∀ k, 1 ≤ k → k < (Utf8.decode s i).2 → ∀ h2 : i + k < s.size, 128 ≤ (s[i + k]'h2).toNat := by
  have e0 : (s.get! (i + 0)).toNat = (s[i]'h).toNat := by rw [Nat.add_zero, get_eq s i h]
  have hr : Utf8.valid (Utf8.runeError : Nat) = true := by decide
  have h1 : (Utf8.runeError, 1) = (Utf8.runeError, 1) := rfl
  have triv : ∀ c : Nat, 128 ≤ c → Utf8.valid c = true → 128 ≤ (c, 1).1 ∧ Utf8.valid (c, 1).1 = true ∧ 1 ≤ (c, 1).2 ∧ i + (c, 1).2 ≤ s.size ∧ ∀ k, 1 ≤ k → k < (c, 1).2 → ∀ h2 : i + k < s.size, 128 ≤ (s[i + k]'h2).toNat := fun c h1 h2 => ⟨h1, h2, Nat.le_refl _, h, fun k a b => by simp at b; omega⟩
  have cont : ∀ k, (decide (i + k < s.size) && (s.get! (i + k)).toNat / 64 == 2) = true → ∃ h2 : i + k < s.size, 128 ≤ (s[i + k]'h2).toNat := fun k hk => by
    simp only [Bool.and_eq_true, decide_eq_true_eq, beq_iff_eq] at hk
    refine ⟨hk.1, ?_⟩
    have := hk.2
    rw [get_eq s (i + k) hk.1] at this
    omega
  unfold Utf8.decode
  simp only [e0]
  rw [if_neg (by omega)]
  split
  · next g =>
    split
    · next g2 =>
      simp only [Bool.and_eq_true] at g
      obtain ⟨c1, d1⟩ := cont 1 (by simpa using g.2)
      refine ⟨g2, ?_, by simp, by simp; omega, fun k a b h2 => ?_⟩
      · simp only [Utf8.valid, Bool.or_eq_true, Bool.and_eq_true, decide_eq_true_eq]
        omega
      · obtain rfl : k = 1 := by simp at b; omega
        exact d1
    · exact triv _ (by decide) hr
  · split
    · next g =>
      split
      · next g2 =>
        simp only [Bool.and_eq_true] at g g2
        obtain ⟨c1, d1⟩ := cont 1 (by simpa using g.1.2)
        obtain ⟨c2, d2⟩ := cont 2 (by simpa using g.2)
        refine ⟨by have := g2.1; simp at this; show 128 ≤ _; omega, g2.2, by simp, by simp; omega, fun k a b h2 => ?_⟩
        rcases (by simp at b; omega : k = 1 ∨ k = 2) with rfl | rfl
        · exact d1
        · exact d2
      · exact triv _ (by decide) hr
    · split
      · next g =>
        split
        · next g2 =>
          simp only [Bool.and_eq_true] at g g2
          obtain ⟨c1, d1⟩ := cont 1 (by simpa using g.1.1.2)
          obtain ⟨c2, d2⟩ := cont 2 (by simpa using g.1.2)
          obtain ⟨c3, d3⟩ := cont 3 (by simpa using g.2)
          refine ⟨by have := g2.1; simp at this; show 128 ≤ _; omega, g2.2, by simp, by simp; omega, fun k a b h2 => ?_⟩
          rcases (by simp at b; omega : k = 1 ∨ k = 2 ∨ k = 3) with rfl | rfl | rfl
          · exact d1
          · exact d2
          · exact d3
        · exact triv _ (by decide) hr
      · exact triv _ (by decide) hr
/-- The last byte of a rune above 127 is above 127. -/
theorem enc_high (r : Int) (h : 128 ≤ r) (hv : Utf8.valid r = true) : ∃ (pre : List UInt8) (c : UInt8), (Utf8.encode r).data.toList = pre ++ [c] ∧ 128 ≤ c.toNat ∧ 1 ≤ pre.length ∧ pre.length ≤ 3 := by
  have hm : ∀ n : Nat, n < 64 → 128 ≤ (UInt8.ofNat (0x80 + n)).toNat := fun n hn => by simp; omega
  unfold Utf8.encode
  simp only [hv, if_true]
  split
  · omega
  split
  · exact ⟨[_], _, rfl, hm _ (Nat.mod_lt _ (by omega)), by simp, by simp⟩
  split
  · exact ⟨[_, _], _, rfl, hm _ (Nat.mod_lt _ (by omega)), by simp, by simp⟩
  · exact ⟨[_, _, _], _, rfl, hm _ (Nat.mod_lt _ (by omega)), by simp, by simp⟩
end Vr
end Go.Proofs.YtcbnelklilamgaaDoor
