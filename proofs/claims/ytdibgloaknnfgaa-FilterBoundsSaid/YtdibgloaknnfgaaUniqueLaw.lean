/- The law of FilterTextUnique in plain lists: what decoding characters accepts is the code of its result, and printable. -/
import Derived.Test.YtdibgloaknnfgaaTextDec
namespace Go.Proofs.Ytdibgloaknnfgaa
def prn (c : UInt8) : Bool := decide (33 ≤ c.toNat ∧ c.toNat ≤ 122)
theorem ungR_ok {l : List UInt8} (h : (ungR l).2 = 0) : l.all okc = true ∧ grp (ungR l).1 = l ∧ (ungR l).1.length = min 4 (l.length - 1) ∧ l.length ≠ 1 := by
  unfold ungR at h ⊢
  by_cases h1 : l.all okc = false
  · rw [if_pos h1] at h; simp at h
  · rw [if_neg h1] at h ⊢
    by_cases h2 : l.length = 1
    · rw [if_pos h2] at h; simp at h
    · rw [if_neg h2] at h ⊢
      by_cases h3 : 4294967296 ≤ uTo l 5
      · rw [if_pos h3] at h; simp at h
      · rw [if_neg h3] at h ⊢
        by_cases h4 : grp ((b4 (uTo l 5)).take (l.length - 1)) = l
        · rw [if_pos h4]
          exact ⟨by simpa using h1, h4, by rw [List.length_take]; show min _ 4 = _; omega, h2⟩
        · rw [if_neg h4] at h; simp at h
theorem enc_chunk {G rest : List UInt8} (h : G.length = 4 ∨ (G.length ≠ 0 ∧ G.length ≤ 4 ∧ rest = [])) : enc (G ++ rest) = grp G ++ enc rest := by
  have hne : (G ++ rest).length ≠ 0 := by rw [List.length_append]; omega
  rw [enc_more hne]
  rcases h with h | ⟨h0, h1, rfl⟩
  · rw [List.take_append_of_le_length (by omega), List.take_of_length_le (by omega), List.drop_append_of_le_length (by omega), List.drop_of_length_le (by omega), List.nil_append]
  · rw [List.append_nil, List.take_of_length_le h1, List.drop_of_length_le h1]
theorem decT_ok (l acc D : List UInt8) (h : decT l acc = (D, 0)) : ∃ R, D = acc ++ R ∧ enc R = l ∧ l.all prn = true := by
  induction hn : l.length using Nat.strongRecOn generalizing l acc D with
  | ind n ih =>
    by_cases h0 : l.length = 0
    · rw [decT_nil h0] at h
      obtain rfl := List.length_eq_zero_iff.1 h0
      exact ⟨[], by simpa using (congrArg Prod.fst h).symm, enc_nil rfl, rfl⟩
    · by_cases hz : byte l 0 = 122
      · rw [decT_z h0 hz] at h
        by_cases hl : 65536 < acc.length + 4
        · rw [if_pos hl] at h; simp at h
        · rw [if_neg hl] at h
          obtain ⟨R, rfl, hR, hp⟩ := ih (l.drop 1).length (by rw [List.length_drop]; omega) _ _ _ h rfl
          have hl2 : l = 122 :: l.drop 1 := by
            match l, h0 with
            | c :: t, _ => have : c = 122 := by simpa [byte] using hz
                           rw [this]; rfl
          refine ⟨[0, 0, 0, 0] ++ R, by rw [List.append_assoc], ?_, ?_⟩
          · rw [enc_chunk (.inl rfl), hR]; conv => rhs; rw [hl2]
            rfl
          · rw [hl2, List.all_cons, hp]; rfl
      · by_cases hu : (ungR (l.take 5)).2 = 0
        · rw [decT_go h0 hz hu] at h
          by_cases hl : 65536 < acc.length + (ungR (l.take 5)).1.length
          · rw [if_pos hl] at h; simp at h
          · rw [if_neg hl] at h
            obtain ⟨R, rfl, hR, hp⟩ := ih (l.drop 5).length (by rw [List.length_drop]; omega) _ _ _ h rfl
            obtain ⟨ho, hg, hlen, hn1⟩ := ungR_ok hu
            rw [List.length_take] at hlen hn1
            refine ⟨(ungR (l.take 5)).1 ++ R, by rw [List.append_assoc], ?_, ?_⟩
            · rw [enc_chunk, hg, hR, List.take_append_drop]
              by_cases h5 : 5 ≤ l.length
              · left; omega
              · right
                refine ⟨by omega, by omega, ?_⟩
                have hd : l.drop 5 = [] := List.drop_of_length_le (by omega)
                rw [hd] at hR
                by_cases hr : R.length = 0
                · exact List.length_eq_zero_iff.1 hr
                · rw [enc_more hr] at hR
                  have hg0 : grp (R.take 4) ≠ [] := by
                    unfold grp; split
                    · simp
                    · intro hx; have := congrArg List.length hx; simp at this
                  exact absurd (List.append_eq_nil_iff.1 hR).1 hg0
            · rw [← List.take_append_drop 5 l, List.all_append, hp, Bool.and_true]
              rw [List.all_eq_true] at ho ⊢
              intro c hc
              have := ho c hc
              simp only [okc, prn, decide_eq_true_eq] at this ⊢
              omega
        · rw [decT_bad h0 hz hu] at h
          exact absurd (congrArg Prod.snd h) hu
theorem decT_start : decT [33, 60, 78] [] = ([1, 2], 0) := by
  have e : ungR [33, 60, 78] = ([1, 2], 0) := by decide
  have e2 : ungR (List.take 5 [33, 60, 78]) = ([1, 2], 0) := e
  rw [decT_go (by decide) (by decide) (by rw [e2]), e2]
  rw [if_neg (by decide)]
  exact decT_nil rfl
end Go.Proofs.Ytdibgloaknnfgaa
