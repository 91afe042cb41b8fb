/- Characters: what is coded is decoded. No program is in sight here. -/
import Derived.Test.YtdibgloaknnfgaaUniqueLaw
namespace Go.Proofs.Ytdibgloaknnfgaa
theorem dg_byte (V i : Nat) : (UInt8.ofNat (dg V i)).toNat = dg V i := by
  have := dg_lt V i
  rw [UInt8.toNat_ofNat']; omega
theorem digits_at (V n i : Nat) (h : i < n) : byte ((List.range n).map fun i => UInt8.ofNat (dg V i)) i = UInt8.ofNat (dg V i) := by
  simp [byte, List.getD_eq_getElem?_getD, h]
theorem uTo_digits (V n : Nat) (hV : V < 85 ^ 5) : ∀ i, i ≤ n → i ≤ 5 → uTo ((List.range n).map fun i => UInt8.ofNat (dg V i)) i = V / 85 ^ (5 - i)
  | 0, _, _ => by simp only [uTo]; rw [Nat.sub_zero, Nat.div_eq_of_lt hV]
  | i + 1, h, h5 => by
    simp only [uTo]
    rw [uTo_digits V n hV i (by omega) (by omega), if_pos (by rw [List.length_map, List.length_range]; omega), digits_at V n i (by omega), dg_byte]
    have e := pow_split V i (by omega)
    unfold dg
    rw [← e, show 4 - i = 5 - (i + 1) by omega]
    omega
theorem uTo_pad (l : List UInt8) : ∀ j, uTo l (l.length + j) + 1 = (uTo l l.length + 1) * 85 ^ j
  | 0 => by simp
  | j + 1 => by
    have ih := uTo_pad l j
    rw [← Nat.add_assoc]
    simp only [uTo]
    rw [if_neg (by omega), Nat.pow_succ, ← Nat.mul_assoc, ← ih]
    omega
theorem grp_digits {G : List UInt8} (h : ¬ (vTo G 4 = 0 ∧ G.length = 4)) : grp G = (List.range (G.length + 1)).map fun i => UInt8.ofNat (dg (vTo G 4) i) := by unfold grp; rw [if_neg h]
theorem u_bounds (V r n : Nat) (hr : r + n = 4) (hV : V < 4294967296) : V ≤ uTo ((List.range (n + 1)).map fun i => UInt8.ofNat (dg V i)) 5 ∧ uTo ((List.range (n + 1)).map fun i => UInt8.ofNat (dg V i)) 5 < V + 85 ^ r := by
  have h1 := uTo_digits V (n + 1) (by omega) (n + 1) (Nat.le_refl _) (by omega)
  have h2 := uTo_pad ((List.range (n + 1)).map fun i => UInt8.ofNat (dg V i)) r
  rw [show ((List.range (n + 1)).map fun i => UInt8.ofNat (dg V i)).length = n + 1 by simp, h1, show n + 1 + r = 5 by omega, show 5 - (n + 1) = r by omega] at h2
  have h3 := Nat.div_add_mod V (85 ^ r)
  have h4 := Nat.mod_lt V (show 0 < 85 ^ r from Nat.pow_pos (by omega))
  rw [Nat.add_mul, Nat.one_mul, Nat.mul_comm] at h2
  omega
theorem dg_ok (V n : Nat) : ((List.range n).map fun i => UInt8.ofNat (dg V i)).all okc = true := by
  rw [List.all_eq_true]
  intro c hc
  obtain ⟨i, _, rfl⟩ := List.mem_map.1 hc
  have := dg_lt V i
  have h2 : 33 ≤ dg V i := by unfold dg; omega
  simp only [okc, dg_byte, decide_eq_true_eq]
  omega
theorem v1 (a : UInt8) : vTo [a] 4 = a.toNat * 16777216 := by simp [vTo, byte]; omega
theorem v2 (a b : UInt8) : vTo [a, b] 4 = a.toNat * 16777216 + b.toNat * 65536 := by simp [vTo, byte]; omega
theorem v3 (a b c : UInt8) : vTo [a, b, c] 4 = a.toNat * 16777216 + b.toNat * 65536 + c.toNat * 256 := by simp [vTo, byte]; omega
theorem v4 (a b c d : UInt8) : vTo [a, b, c, d] 4 = a.toNat * 16777216 + b.toNat * 65536 + c.toNat * 256 + d.toNat := by simp [vTo, byte]; omega
theorem byte_of (x : UInt8) (y : Nat) (h : y % 256 = x.toNat) : UInt8.ofNat y = x := by
  apply UInt8.toNat_inj.1
  rw [UInt8.toNat_ofNat']
  exact h
theorem b4_take (G : List UInt8) (U r : Nat) (h0 : 1 ≤ G.length) (hr : r + G.length = 4) (h1 : vTo G 4 ≤ U) (h2 : U < vTo G 4 + 85 ^ r) : (b4 U).take G.length = G ∧ U < 4294967296 := by
  rcases G with _ | ⟨a, _ | ⟨b, _ | ⟨c, _ | ⟨d, _ | ⟨e, t⟩⟩⟩⟩⟩
  · exact absurd h0 (by simp)
  · have hr3 : r = 3 := by simp at hr; omega
    have ha := a.toNat_lt
    rw [v1] at h1 h2
    rw [hr3] at h2
    exact ⟨by show [UInt8.ofNat (U / 16777216)] = _; rw [byte_of a _ (by omega)], by omega⟩
  · have hr3 : r = 2 := by simp at hr; omega
    have ha := a.toNat_lt
    have hb := b.toNat_lt
    rw [v2] at h1 h2
    rw [hr3] at h2
    exact ⟨by show [UInt8.ofNat (U / 16777216), UInt8.ofNat (U / 65536)] = _; rw [byte_of a _ (by omega), byte_of b _ (by omega)], by omega⟩
  · have hr3 : r = 1 := by simp at hr; omega
    have ha := a.toNat_lt
    have hb := b.toNat_lt
    have hc := c.toNat_lt
    rw [v3] at h1 h2
    rw [hr3] at h2
    exact ⟨by show [UInt8.ofNat (U / 16777216), UInt8.ofNat (U / 65536), UInt8.ofNat (U / 256)] = _; rw [byte_of a _ (by omega), byte_of b _ (by omega), byte_of c _ (by omega)], by omega⟩
  · have hr3 : r = 0 := by simp at hr; omega
    have ha := a.toNat_lt
    have hb := b.toNat_lt
    have hc := c.toNat_lt
    have hd := d.toNat_lt
    rw [v4] at h1 h2
    rw [hr3] at h2
    exact ⟨by show [UInt8.ofNat (U / 16777216), UInt8.ofNat (U / 65536), UInt8.ofNat (U / 256), UInt8.ofNat U] = _; rw [byte_of a _ (by omega), byte_of b _ (by omega), byte_of c _ (by omega), byte_of d _ (by omega)], by omega⟩
  · simp at hr; omega
theorem ungR_grp {G : List UInt8} (h0 : 1 ≤ G.length) (h4 : G.length ≤ 4) (hz : ¬ (vTo G 4 = 0 ∧ G.length = 4)) : ungR (grp G) = (G, 0) := by
  have hl : (grp G).length = G.length + 1 := by rw [grp_digits hz]; simp
  obtain ⟨r, hr⟩ : ∃ r, r + G.length = 4 := ⟨4 - G.length, by omega⟩
  have hv := vTo_lt G 4
  have hb := u_bounds (vTo G 4) r G.length hr (by omega)
  rw [← grp_digits hz] at hb
  obtain ⟨k1, k2⟩ := b4_take G (uTo (grp G) 5) r h0 hr hb.1 hb.2
  have ho : (grp G).all okc = true := by rw [grp_digits hz]; exact dg_ok _ _
  unfold ungR
  rw [if_neg (by rw [ho]; simp), if_neg (by omega), if_neg (by omega), hl, Nat.add_sub_cancel, k1, if_pos rfl]
set_option maxRecDepth 100000 in
theorem grp_zero {G : List UInt8} (hz : vTo G 4 = 0 ∧ G.length = 4) : G = [0, 0, 0, 0] ∧ grp G = [122] := by
  refine ⟨?_, by unfold grp; rw [if_pos hz]⟩
  obtain ⟨h1, h2⟩ := hz
  match G, h2 with
  | [a, b, c, d], _ =>
    simp [vTo, byte] at h1
    have e : ∀ x : UInt8, x.toNat = 0 → x = 0 := fun x h => UInt8.toNat_inj.1 h
    rw [e a (by omega), e b (by omega), e c (by omega), e d (by omega)]
theorem decT_enc (l : List UInt8) : ∀ acc : List UInt8, acc.length + l.length ≤ 65536 → decT (enc l) acc = (acc ++ l, 0) := by
  induction hn : l.length using Nat.strongRecOn generalizing l with
  | ind n ih =>
    intro acc hs
    by_cases h0 : l.length = 0
    · obtain rfl := List.length_eq_zero_iff.1 h0
      rw [enc_nil rfl, decT_nil rfl, List.append_nil]
    · have hd := ih (l.drop 4).length (by rw [List.length_drop]; omega) (l.drop 4) rfl
      rw [List.length_drop] at hd
      have ht : (l.take 4).length = min 4 l.length := List.length_take
      have hap : acc ++ l = acc ++ l.take 4 ++ l.drop 4 := by rw [List.append_assoc, List.take_append_drop]
      rw [enc_more h0, hap]
      by_cases hz : vTo (l.take 4) 4 = 0 ∧ (l.take 4).length = 4
      · obtain ⟨e1, e2⟩ := grp_zero hz
        have hl4 : 4 ≤ l.length := by omega
        rw [e2, decT_z (by simp) rfl, e1, if_neg (by omega)]
        show decT (enc (l.drop 4)) _ = _
        exact hd _ (by rw [List.length_append]; simp; omega)
      · have hg := grp_digits hz
        have hgl : (grp (l.take 4)).length = (l.take 4).length + 1 := by rw [hg]; simp
        have hg0 : byte (grp (l.take 4) ++ enc (l.drop 4)) 0 ≠ 122 := by
          have h1 : byte (grp (l.take 4) ++ enc (l.drop 4)) 0 = byte (grp (l.take 4)) 0 := by
            unfold byte
            rw [List.getD_eq_getElem?_getD, List.getD_eq_getElem?_getD, List.getElem?_append_left (by omega)]
          rw [h1, hg, digits_at _ _ _ (by omega)]
          intro e
          have := congrArg UInt8.toNat e
          rw [dg_byte] at this
          have h2 := dg_lt (vTo (l.take 4) 4) 0
          have h3 : (122 : UInt8).toNat = 122 := rfl
          omega
        have hu := ungR_grp (G := l.take 4) (by omega) (by omega) hz
        have htk : (grp (l.take 4) ++ enc (l.drop 4)).take 5 = grp (l.take 4) := by
          rcases Nat.lt_or_ge l.length 4 with h | h
          · rw [List.drop_of_length_le (by omega), enc_nil rfl, List.append_nil, List.take_of_length_le (by omega)]
          · rw [List.take_append_of_le_length (by omega), List.take_of_length_le (by omega)]
        have hdr : (grp (l.take 4) ++ enc (l.drop 4)).drop 5 = enc (l.drop 4) := by
          rcases Nat.lt_or_ge l.length 4 with h | h
          · rw [show l.drop 4 = [] from List.drop_of_length_le (by omega), enc_nil rfl, List.append_nil, List.drop_of_length_le (by omega)]
          · rw [List.drop_append_of_le_length (by omega), List.drop_of_length_le (by omega), List.nil_append]
        have hne : (grp (l.take 4) ++ enc (l.drop 4)).length ≠ 0 := by rw [List.length_append]; omega
        rw [decT_go hne hg0 (by rw [htk, hu]), htk, hu]
        dsimp only
        rw [if_neg (by omega), hdr]
        exact hd (acc ++ l.take 4) (by rw [List.length_append]; omega)
theorem enc_bound (l : List UInt8) : (enc l).length ≤ l.length + (l.length + 3) / 4 := by
  induction hn : l.length using Nat.strongRecOn generalizing l with
  | ind n ih =>
    by_cases h0 : l.length = 0
    · rw [enc_nil h0]; simp
    · have hd := ih (l.drop 4).length (by rw [List.length_drop]; omega) (l.drop 4) rfl
      have hg := grp_length (l.take 4)
      rw [List.length_drop] at hd
      rw [List.length_take] at hg
      rw [enc_more h0, List.length_append]
      omega
end Go.Proofs.Ytdibgloaknnfgaa
