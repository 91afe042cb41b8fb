/- The walk of check, for a token that Print writes. -/
import Derived.Test.YtenhaohooknkfaaDoorTokBare
import Derived.Test.YtenhaohooknkfaaDoorTokPrT
namespace Go.Proofs.YtenhaohooknkfaaDoor
open Go.RowKit Tk
theorem index_none : ∀ (l : Src) (c : UInt8), (∀ x ∈ l, x ≠ c) → Lib.indexByte l c = -1
  | [], _, _ => rfl
  | b :: l, c, h => by
    rw [Lib.indexByte, if_neg (by simpa using h b (by simp)), index_none l c fun x hx => h x (by simp [hx]), if_pos (by decide)]
theorem str_empty (l : Src) (S : ByteArray) (h : S = ⟨l.toArray⟩) : S.toList.isEmpty = decide (l.length = 0) := by
  rw [Lib.toList_data, h]
  cases l <;> rfl
set_option maxRecDepth 100000 in
set_option maxHeartbeats 16000000 in
theorem check_ok (b : BTok) (h : VTok b) (a e : Int) (w : World) :
    Calls Tryd.prog 18 #[tokV b.kind b.int ⟨b.text.toArray⟩ a e] w fun r w' => r = .returned (.int .i64 0) ∧ Below w.heap.size w w' := by
  unfold tokV
  cases h with
  | int n h1 h2 =>
    dsimp only
    have g1 : ¬ n < -2147483647 := by omega
    have g2 : ¬ 2147483647 < n := by omega
    have g3 : decide (n < -2147483647) = false := decide_eq_false g1
    have g4 : decide (2147483647 < n) = false := decide_eq_false g2
    by_cases h0 : n = 0
    · subst h0
      go_enter Tryd.func18, Tryd.ntmps18
      go_wp2_with fail
      go_ret
      exact ⟨rfl, (Below.refl _ _).alloc (Nat.le_refl _) _⟩
    · have q0 : (n != 0) = true := by simpa using h0
      clear h0
      go_enter Tryd.func18, Tryd.ntmps18
      go_wp2_with fail
      go_ret
      exact ⟨rfl, (Below.refl _ _).alloc (Nat.le_refl _) _⟩
  | name s h0 h1 h2 =>
    obtain ⟨S, hS⟩ : ∃ S : ByteArray, S = ⟨s.toArray⟩ := ⟨_, rfl⟩
    have hz : S.size = s.length := by rw [hS, int_size]
    have he := str_empty s S hS
    dsimp only
    rw [← hS]
    rw [decide_eq_false (by simpa using h0)] at he
    have hI : Lib.indexByte S.data.toList 0 = -1 := by rw [hS]; exact index_none s 0 h2
    have HC : Hid (∀ W, Calls Tryd.prog 30 #[.string S, .int .u8 0] W fun e w' => e = .returned (.int .i64 (-1)) ∧ w' = W) := fun W => by
      have h := strings_IndexByte S 0 W
      rwa [show (0 : Int).toNat.toUInt8 = 0 from rfl, hI] at h
    have g1 : ¬ (31 : Int) < (S.size : Int) := by omega
    have he2 : (!S.toList.isEmpty) = true := by rw [he]; rfl
    clear hS hz hI h0 h1 h2
    go_enter Tryd.func18, Tryd.ntmps18
    go_wp2_with fail
    refine (HC.out _).mono ?_
    rintro e w2 ⟨rfl, rfl⟩
    go_wp2_with fail
    go_ret
    exact ⟨rfl, (Below.refl _ _).alloc (Nat.le_refl _) _⟩
  | text s h1 =>
    obtain ⟨S, hS⟩ : ∃ S : ByteArray, S = ⟨s.toArray⟩ := ⟨_, rfl⟩
    have hz : S.size = s.length := by rw [hS, int_size]
    have he := str_empty s S hS
    dsimp only
    rw [← hS]
    have g1 : ¬ (1024 : Int) < (S.size : Int) := by omega
    by_cases h0 : s.length = 0
    · rw [decide_eq_true h0] at he
      have he2 : (!S.toList.isEmpty) = false := by rw [he]; rfl
      clear hS hz h0 h1
      go_enter Tryd.func18, Tryd.ntmps18
      go_wp2_with fail
      go_ret
      exact ⟨rfl, (Below.refl _ _).alloc (Nat.le_refl _) _⟩
    · rw [decide_eq_false h0] at he
      have he2 : (!S.toList.isEmpty) = true := by rw [he]; rfl
      clear hS hz h0 h1
      go_enter Tryd.func18, Tryd.ntmps18
      go_wp2_with fail
      go_ret
      exact ⟨rfl, (Below.refl _ _).alloc (Nat.le_refl _) _⟩
  | ref n h1 h2 =>
    dsimp only
    have g1 : ¬ (n : Int) < 1 := by omega
    have g2 : ¬ 255 < (n : Int) := by omega
    have g3 : decide ((n : Int) < 1) = false := decide_eq_false g1
    have g4 : decide (255 < (n : Int)) = false := decide_eq_false g2
    have q0 : ((n : Int) != 0) = true := by rw [bne_iff_ne]; omega
    go_enter Tryd.func18, Tryd.ntmps18
    go_wp2_with fail
    go_ret
    exact ⟨rfl, (Below.refl _ _).alloc (Nat.le_refl _) _⟩
  | word s hw =>
    obtain ⟨S, hS⟩ : ∃ S : ByteArray, S = ⟨s.toArray⟩ := ⟨_, rfl⟩
    have hz : S.size = s.length := by rw [hS, int_size]
    have he := str_empty s S hS
    dsimp only
    rw [← hS]
    have hlen : s.length ≤ 31 := by obtain ⟨_, x, r, _, hl, _⟩ := word_ok hw; exact hl
    have h0 : s.length ≠ 0 := by obtain ⟨_, x, r, e, _⟩ := word_ok hw; rw [e]; simp
    rw [decide_eq_false h0] at he
    have he2 : (!S.toList.isEmpty) = true := by rw [he]; rfl
    have HC : Hid (∀ W, Calls Tryd.prog 31 #[.string S] W fun e w' => e = .returned (.tuple #[.string S, .int .i64 0]) ∧ W = w') := fun W => by
      have h := word_any s W (by omega)
      unfold wordR at h
      rw [hw] at h
      rw [hS]; exact h
    have g1 : ¬ (1024 : Int) < (S.size : Int) := by omega
    clear hS hz hlen h0 hw
    go_enter Tryd.func18, Tryd.ntmps18
    go_wp2_with fail
    refine (HC.out _).mono ?_
    rintro e w2 ⟨rfl, rfl⟩
    go_wp2_with fail
    go_ret
    exact ⟨rfl, (Below.refl _ _).alloc (Nat.le_refl _) _⟩
  | list =>
    dsimp only
    go_enter Tryd.func18, Tryd.ntmps18
    go_wp2_with fail
    go_ret
    exact ⟨rfl, (Below.refl _ _).alloc (Nat.le_refl _) _⟩
  | listEnd =>
    dsimp only
    go_enter Tryd.func18, Tryd.ntmps18
    go_wp2_with fail
    go_ret
    exact ⟨rfl, (Below.refl _ _).alloc (Nat.le_refl _) _⟩
  | dict =>
    dsimp only
    go_enter Tryd.func18, Tryd.ntmps18
    go_wp2_with fail
    go_ret
    exact ⟨rfl, (Below.refl _ _).alloc (Nat.le_refl _) _⟩
  | dictEnd =>
    dsimp only
    go_enter Tryd.func18, Tryd.ntmps18
    go_wp2_with fail
    go_ret
    exact ⟨rfl, (Below.refl _ _).alloc (Nat.le_refl _) _⟩
end Go.Proofs.YtenhaohooknkfaaDoor
