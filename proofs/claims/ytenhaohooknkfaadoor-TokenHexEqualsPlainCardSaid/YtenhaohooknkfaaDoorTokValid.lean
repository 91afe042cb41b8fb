/- What is read can be printed, and is not much longer then; in plain words. -/
import Derived.Test.YtenhaohooknkfaaDoorTokJoin
namespace Go.Proofs.YtenhaohooknkfaaDoor
namespace Tk
theorem natV_lt (d : Src) (h : d.all digit = true) : natV d < 10 ^ d.length := by
  have key : ∀ (d : Src) (a : Nat), d.all digit = true → d.foldl (fun n c => n * 10 + (c.toNat - 48)) a < (a + 1) * 10 ^ d.length := by
    intro d
    induction d with
    | nil => intro a _; simp
    | cons c d ih =>
      intro a h
      rw [List.all_cons, Bool.and_eq_true] at h
      have h1 := ih (a * 10 + (c.toNat - 48)) h.2
      have h2 : c.toNat - 48 ≤ 9 := by
        have := u8_all (fun x => !digit x || decide (x.toNat - 48 ≤ 9)) (by decide +kernel) c
        rw [h.1] at this; simpa using this
      have h3 : (a * 10 + (c.toNat - 48) + 1) * 10 ^ d.length ≤ ((a + 1) * 10) * 10 ^ d.length := Nat.mul_le_mul_right _ (by omega)
      rw [List.foldl_cons, List.length_cons, Nat.pow_succ, Nat.mul_comm (10 ^ d.length) 10, ← Nat.mul_assoc]
      omega
  have := key d 0 h
  unfold natV
  simpa using this
theorem dec_len_le {u k : Nat} (h : u < 10 ^ k) (hk : 0 < k) : (Lib.decDigits u).length ≤ k := by
  have := dec_len (k - 1) u (by rw [show k - 1 + 1 = k by omega]; exact h)
  omega
theorem integer_ok {w : Src} {v : Int} (h : integer w = .ok v) : -2147483647 ≤ v ∧ v ≤ 2147483647 ∧ (Lib.itoa v).length ≤ w.length ∧ 0 < w.length := by
  unfold integer at h
  split at h
  · cases h
  · rename_i h1
    split at h
    · cases h
    · rename_i h2
      cases h
      have ha : (digs w).all digit = true := by
        cases hd : (digs w).all digit with
        | true => rfl
        | false => exact absurd (.inr (.inr hd)) h1
      have hp : 0 < (digs w).length := by omega
      have hl := dec_len_le (natV_lt _ ha) hp
      refine ⟨by omega, by omega, ?_⟩
      cases w with
      | nil => simp [digs] at hp
      | cons x r =>
        refine ⟨?_, by simp⟩
        by_cases e1 : x = 45
        · subst e1
          have e2 : digs (45 :: r) = r := rfl
          have e3 : intV (45 :: r) = -(natV r : Int) := rfl
          rw [e2] at hl
          rw [e3]
          unfold Lib.itoa
          split
          · have : (-(natV r : Int)).natAbs = natV r := by omega
            rw [this, List.length_cons, List.length_cons]; omega
          · have : (-(natV r : Int)).toNat = 0 := by omega
            rw [this, Lib.decDigits, dif_pos (by decide)]; simp
        · by_cases e4 : x = 43
          · subst e4
            have e2 : digs (43 :: r) = r := rfl
            have e3 : intV (43 :: r) = (natV r : Int) := rfl
            rw [e2] at hl
            rw [e3, itoa_nat, List.length_cons]; omega
          · have e2 : digs (x :: r) = x :: r := by unfold digs signed; simp [e1, e4]
            have e3 : intV (x :: r) = (natV (x :: r) : Int) := by unfold intV; simp [e1, e4]
            rw [e2] at hl
            rw [e3, itoa_nat]; exact hl
theorem reference_ok {w : Src} {v : Int} (h : reference w = .ok v) : ∃ n : Nat, v = n ∧ 1 ≤ n ∧ n ≤ 255 ∧ 0 < w.length := by
  unfold reference at h
  split at h
  · cases h
  · rename_i h1
    split at h
    · cases h
    · cases h; exact ⟨natV w, rfl, by omega, by omega, by omega⟩
theorem nameF_ok : ∀ (f : Nat) (w acc t : Src), nameF f w acc = .ok t → ∃ s, t = acc ++ s ∧ s.length ≤ w.length ∧ ∀ c ∈ s, c ≠ 0
  | 0, _, _, _, h => by cases h
  | f + 1, [], acc, t, h => by cases h; exact ⟨[], by simp, Nat.le_refl _, fun c hc => by cases hc⟩
  | f + 1, x :: r, acc, t, h => by
    simp only [nameF] at h
    split at h
    · cases hp : pairV r with
      | none => rw [hp] at h; cases h
      | some v =>
        rw [hp] at h
        dsimp only at h
        split at h
        · cases h
        · rename_i hv
          obtain ⟨s, e1, e2, e3⟩ := nameF_ok f _ _ _ h
          refine ⟨v :: s, by rw [e1]; simp, ?_, fun c hc => ?_⟩
          · rw [List.length_drop] at e2; rw [List.length_cons, List.length_cons]; omega
          · rcases List.mem_cons.1 hc with rfl | hc
            · simpa using hv
            · exact e3 c hc
    · split at h
      · cases h
      · rename_i h2
        obtain ⟨s, e1, e2, e3⟩ := nameF_ok f _ _ _ h
        refine ⟨x :: s, by rw [e1]; simp, by rw [List.length_cons, List.length_cons]; omega, fun c hc => ?_⟩
        rcases List.mem_cons.1 hc with rfl | hc
        · intro e; subst e; exact h2 (by decide)
        · exact e3 c hc
theorem nameW_ok {w s : Src} (h : nameW w = .ok s) : s ≠ [] ∧ s.length ≤ 31 ∧ (∀ c ∈ s, c ≠ 0) ∧ s.length ≤ w.length := by
  unfold nameW at h
  cases hn : nameF (w.length + 1) w [] with
  | error e => rw [hn] at h; cases h
  | ok acc =>
    rw [hn] at h
    dsimp only at h
    split at h
    · cases h
    · rename_i h1
      split at h
      · cases h
      · rename_i h2
        cases h
        obtain ⟨s', e1, e2, e3⟩ := nameF_ok _ _ _ _ hn
        rw [List.nil_append] at e1
        subst e1
        exact ⟨fun e => h1 (by rw [e]; rfl), by omega, e3, e2⟩
theorem prName_le (t : Src) : (prName t).length ≤ 3 * t.length := by
  induction t with
  | nil => exact Nat.le_refl _
  | cons x t ih =>
    rw [prName_cons, List.length_append, List.length_cons]
    have : (prNB x).length ≤ 3 := by unfold prNB; split <;> simp
    omega
theorem prByte_le (x : UInt8) : (prByte x).length ≤ 4 := by
  rcases prB_cases x with ⟨y, e, _⟩ | ⟨a, b, e, _⟩ | ⟨e, _⟩ <;> rw [e] <;> simp
theorem prText_le (t : Src) : (prText t).length ≤ 4 * t.length + 2 := by
  have : (t.flatMap prByte).length ≤ 4 * t.length := by
    induction t with
    | nil => exact Nat.le_refl _
    | cons x t ih =>
      have := prByte_le x
      rw [List.flatMap_cons, List.length_append, List.length_cons]; omega
  unfold prText
  rw [List.length_append, List.length_append, List.length_singleton, List.length_singleton]; omega
theorem one_valid {l : Src} {t : BTok} {n : Nat} (h : one l = .ok (t, n)) : VTok t ∧ (prTok t).length + 1 ≤ 4 * n := by
  cases l with
  | nil => cases h
  | cons x r =>
    obtain ⟨kd, iv, tx⟩ := t
    rw [one_cons] at h
    split at h
    · obtain ⟨e1, e2, e3, e4⟩ := mapInt_ok h
      dsimp only at e2 e3 e4
      subst e1 e2 e4
      obtain ⟨a, b, c, d⟩ := integer_ok e3
      exact ⟨.int iv a b, by show (Lib.itoa iv).length + 1 ≤ _; omega⟩
    split at h
    · obtain ⟨e1, e2, e3, e4⟩ := mapTxt_ok h
      dsimp only at e2 e3 e4
      subst e1 e2 e4
      have e5 := (word_ok e3).1
      have e6 : word tx = .ok tx := by rw [← e5] at e3; exact e3
      obtain ⟨_, y, q, e7, _⟩ := word_ok e6
      refine ⟨.word tx e6, ?_⟩
      show tx.length + 1 ≤ _
      rw [← e5, e7, List.length_cons]; omega
    split at h
    · obtain ⟨e1, e2, e3, e4⟩ := mapTxt_ok h
      dsimp only at e2 e3 e4
      subst e1 e2 e4
      obtain ⟨a, b, c, d⟩ := nameW_ok e3
      refine ⟨.name tx a b c, ?_⟩
      have := prName_le tx
      show (47 :: prName tx).length + 1 ≤ _
      rw [List.length_cons]; omega
    split at h
    · obtain ⟨e1, e2, e3, e4⟩ := mapInt_ok h
      dsimp only at e2 e3 e4
      subst e1 e2 e4
      obtain ⟨u, rfl, a, b, c⟩ := reference_ok e3
      refine ⟨.ref u a b, ?_⟩
      show (64 :: Lib.itoa u).length + 1 ≤ _
      rw [itoa_nat, List.length_cons]
      have := dec_len 2 u (by omega)
      omega
    split at h
    · obtain ⟨m, e1, e2, e3, e4⟩ := mapRes_ok h
      dsimp only at e2 e3 e4
      subst e1 e2 e4
      obtain ⟨a, b, f1, f2, f3, f4, f5⟩ := text_split e3
      refine ⟨.text tx f4, ?_⟩
      have := prText_le tx
      show (prText tx).length + 1 ≤ _
      omega
    split at h
    · cases h; exact ⟨.list, by decide⟩
    split at h
    · cases h; exact ⟨.listEnd, by decide⟩
    split at h
    · split at h
      · cases h; exact ⟨.dict, by decide⟩
      · obtain ⟨m, e1, e2, e3, e4⟩ := mapRes_ok h
        dsimp only at e2 e3 e4
        subst e1 e2 e4
        obtain ⟨a, b, f1, f2, f0, f3, f4, f5⟩ := hex_split e3
        refine ⟨.text tx f4, ?_⟩
        have := prText_le tx
        show (prText tx).length + 1 ≤ _
        omega
    split at h
    · split at h
      · cases h; exact ⟨.dictEnd, by decide⟩
      · cases h
    · cases h
theorem own_valid {l a b : Src} {t : BTok} {n : Nat} (h : Own l t n a b) : VTok t ∧ (prTok t).length + 1 ≤ 4 * n := by
  have := h.same b h.stop
  exact one_valid this
theorem scan_valid : ∀ (k : Nat) (l : Src) (f p : Nat) (ts : List Tok) (o : Bool), l.length ≤ k → l.length < f → scanF f p l = .ok ts → (∀ t ∈ ts.map (·.b), VTok t) ∧ (joinL o (ts.map (·.b))).length ≤ 4 * l.length
  | k, l, f, p, ts, o, hk, hf, h => by
    rcases scanF_left h hf with ⟨rfl, hs⟩ | ⟨t, n, ts', x, r, a, b, rfl, he, hw, hd, w1, w2, hb, h2⟩
    · exact ⟨fun t ht => (by cases ht), Nat.zero_le _⟩
    · cases k with
      | zero => omega
      | succ k =>
        obtain ⟨v1, v2⟩ := own_valid hw
        obtain ⟨i1, i2⟩ := scan_valid k b f _ ts' (endR t) (by omega) (by omega) h2
        have hlen := congrArg List.length he
        rw [List.length_append, List.length_append] at hlen
        have hn := hw.len
        refine ⟨fun u hu => ?_, ?_⟩
        · rw [List.map_cons] at hu
          rcases List.mem_cons.1 hu with rfl | hu
          · exact v1
          · exact i1 u hu
        · show (sepB o t ++ (prTok t ++ joinL (endR t) (ts'.map (·.b)))).length ≤ _
          have : (sepB o t).length ≤ 1 := by unfold sepB; split <;> simp
          rw [List.length_append, List.length_append]
          omega
end Tk
end Go.Proofs.YtenhaohooknkfaaDoor
