/- The walks of Encode and Decode at any chain. -/
import Derived.Test.YtdibgloaknnfgaaFltChk
namespace Go.Proofs.Ytdibgloaknnfgaa
open Go.RowKit
theorem coding_run (m : Int) (w : World) : Calls Try.prog 13 #[.agg #[.int .i64 1, .int .i64 m]] w fun e w' => e = .returned (.iface 43 (.agg #[])) ∧ Below w.heap.size w w' := by
  go_enter Try.func13, Try.ntmps13
  go_wp2
  go_ret
  exact ⟨rfl, (Below.refl _ _).alloc (Nat.le_refl _) _⟩
theorem coding_copy (m : Int) (w : World) : Calls Try.prog 13 #[.agg #[.int .i64 3, .int .i64 m]] w fun e w' => e = .returned (.iface 46 (.agg #[])) ∧ Below w.heap.size w w' := by
  go_enter Try.func13, Try.ntmps13
  go_wp2
  go_ret
  exact ⟨rfl, (Below.refl _ _).alloc (Nat.le_refl _) _⟩
theorem coding_text' (m : Int) (w : World) : Calls Try.prog 13 #[.agg #[.int .i64 4, .int .i64 m]] w fun e w' => e = .returned (.iface 47 (.agg #[])) ∧ Below w.heap.size w w' := by
  go_enter Try.func13, Try.ntmps13
  go_wp2
  go_ret
  exact ⟨rfl, (Below.refl _ _).alloc (Nat.le_refl _) _⟩
theorem coding_row' (m : Int) (w : World) : Calls Try.prog 13 #[.agg #[.int .i64 2, .int .i64 m]] w fun e w' => e = .returned (.iface 45 (.agg #[.int .i64 m])) ∧ Below w.heap.size w w' := coding_row m w
theorem me1 (w : World) : (method 192 43 (.agg #[]) "printworks/filter.encode").run Try.prog w = .ok (32, .agg #[]) w := by kernel_rfl
theorem me2 (m : Int) (w : World) : (method 192 45 (.agg #[.int .i64 m]) "printworks/filter.encode").run Try.prog w = .ok (50, .agg #[.int .i64 m]) w := by kernel_rfl
theorem me3 (w : World) : (method 192 46 (.agg #[]) "printworks/filter.encode").run Try.prog w = .ok (52, .agg #[]) w := by kernel_rfl
theorem me4 (w : World) : (method 192 47 (.agg #[]) "printworks/filter.encode").run Try.prog w = .ok (57, .agg #[]) w := by kernel_rfl
theorem md1 (w : World) : (method 192 43 (.agg #[]) "printworks/filter.decode").run Try.prog w = .ok (31, .agg #[]) w := by kernel_rfl
theorem md2 (m : Int) (w : World) : (method 192 45 (.agg #[.int .i64 m]) "printworks/filter.decode").run Try.prog w = .ok (49, .agg #[.int .i64 m]) w := by kernel_rfl
theorem md3 (w : World) : (method 192 46 (.agg #[]) "printworks/filter.decode").run Try.prog w = .ok (51, .agg #[]) w := by kernel_rfl
theorem md4 (w : World) : (method 192 47 (.agg #[]) "printworks/filter.decode").run Try.prog w = .ok (56, .agg #[]) w := by kernel_rfl
/-- The code of one step; of the first i steps. -/
def encS (x : Stp) (l : List UInt8) : List UInt8 := if x.1 = 1 then encR l else if x.1 = 2 then encD x.2.toNat l else if x.1 = 3 then encC l else enc l
def encTo (cs : List Stp) (l : List UInt8) : Nat → List UInt8
  | 0 => l
  | i + 1 => encS (cs.getD i (0, 0)) (encTo cs l i)
def encA (cs : List Stp) (l : List UInt8) : List UInt8 := encTo cs l cs.length
def bd : Nat → Nat
  | 0 => 16384
  | i + 1 => bd i + (bd i + 3) / 4
theorem bd_le {i : Nat} (h : i ≤ 4) : bd i ≤ 40000 := by
  have e4 : bd 4 = 40000 := by decide
  have hm : ∀ j, bd j ≤ bd (j + 1) := fun j => by simp only [bd]; omega
  have : bd i ≤ bd 4 := by
    match i, h with
    | 0, _ => exact Nat.le_trans (hm 0) (Nat.le_trans (hm 1) (Nat.le_trans (hm 2) (hm 3)))
    | 1, _ => exact Nat.le_trans (hm 1) (Nat.le_trans (hm 2) (hm 3))
    | 2, _ => exact Nat.le_trans (hm 2) (hm 3)
    | 3, _ => exact hm 3
    | 4, _ => exact Nat.le_refl _
    | i + 5, h => omega
  omega
theorem encS_bound (x : Stp) (l : List UInt8) : (encS x l).length ≤ l.length + (l.length + 3) / 4 := by
  unfold encS
  split
  · have := encR_bound l; omega
  split
  · rw [encD_length]; omega
  split
  · have := encC_bound l; omega
  · exact enc_bound l
theorem encTo_bound (cs : List Stp) (l : List UInt8) (h : l.length ≤ 16384) : ∀ i, (encTo cs l i).length ≤ bd i
  | 0 => h
  | i + 1 => by
    have h1 := encTo_bound cs l h i
    have h2 := encS_bound (cs.getD i (0, 0)) (encTo cs l i)
    simp only [encTo, bd]
    omega
/-- Each step of a chain without an error is of one of four kinds. -/
theorem chkL_step : ∀ {cs : List Stp}, chkL cs = 0 → ∀ i, i < cs.length → stepE (cs.getD i (0, 0)) = 0
  | [], _, i, h => by simp at h
  | x :: r, h, 0, _ => by
    simp only [chkL] at h
    by_cases e : stepE x ≠ 0
    · rw [if_pos e] at h; exact absurd h e
    · simpa using e
  | x :: r, h, i + 1, hi => by
    simp only [chkL] at h
    by_cases e : stepE x ≠ 0
    · rw [if_pos e] at h; exact absurd h e
    · rw [if_neg e] at h
      exact chkL_step h i (by simpa using hi)
theorem step_kinds {x : Stp} (h : stepE x = 0) : (x.1 = 1 ∧ x.2 = 0) ∨ (x.1 = 2 ∧ 1 ≤ x.2 ∧ x.2 ≤ 1024) ∨ (x.1 = 3 ∧ x.2 = 0) ∨ (x.1 = 4 ∧ x.2 = 0) := by
  unfold stepE at h
  split at h
  · simp at h
  split at h
  · simp at h
  split at h
  · simp at h
  omega
theorem chkR_ok {cs : List Stp} (h : chkR cs = 0) : cs.length ≤ 4 ∧ ∀ i, i < cs.length → stepE (cs.getD i (0, 0)) = 0 := by
  unfold chkR at h
  split at h
  · simp at h
  · exact ⟨by omega, chkL_step h⟩
def EncR (cs : List Stp) (l : List UInt8) : List UInt8 × Int := if chkR cs ≠ 0 then ([], chkR cs) else if 16384 < l.length then ([], 2) else (encA cs l, 0)
set_option maxRecDepth 100000 in
set_option maxHeartbeats 8000000 in
theorem encode_chain (cs : List Stp) (v : Value) (s : ByteArray) (w : World) (h : ChM w v cs) (hs : s.size ≤ 281474976710656) :
    Calls Try.prog 9 #[v, .string s] w (UngPost w (EncR cs s.data.toList)) := by
  have HP : Hid (∀ w', Below w.heap.size w w' → ∀ r, r = EncR cs s.data.toList → UngPost w (EncR cs s.data.toList) (.returned (.tuple #[.string ⟨r.1.toArray⟩, .int .i64 r.2])) w') := fun w' hb r h => by rw [h]; exact ⟨rfl, hb⟩
  have HC := Lib.hid (check_any cs v w h)
  have hlen : s.data.toList.length = s.size := by simp
  obtain ⟨A, cap, rfl, -⟩ := id h
  have HM := Lib.hid h
  clear h
  generalize hPo : UngPost w (EncR cs s.data.toList) = Post at *
  clear hPo
  by_cases hc0 : chkR cs = 0
  · obtain ⟨hl4, hst⟩ := chkR_ok hc0
    rw [hc0] at HC
    by_cases hbig : 16384 < s.size
    · have HE : Hid (EncR cs s.data.toList = ([], 2)) := by unfold Hid EncR; rw [if_neg (by rw [hc0]; simp), if_pos (by rw [hlen]; exact hbig)]
      have g1 : decide ((s.size : Int) > 16384) = true := by simp; omega
      clear hst hc0 hlen
      generalize EncR cs s.data.toList = E at *
      go_enter Try.func9, Try.ntmps9
      go_wp2_with fail
      ((with_reducible refine HC.out.mono ?_); rintro e w2 ⟨rfl, hb2⟩)
      have HB2 := Lib.hid hb2
      clear hb2
      go_wp2_with fail
      exact HP.out _ HB2.out ([], 2) HE.out.symm
    · have hL : s.data.toList.length ≤ 16384 := by rw [hlen]; omega
      have HBd : Hid (∀ i, (encTo cs s.data.toList i).length ≤ bd i) := encTo_bound cs s.data.toList hL
      have HE : Hid (EncR cs s.data.toList = (encTo cs s.data.toList cs.length, 0)) := by unfold Hid EncR; rw [if_neg (by rw [hc0]; simp), if_neg (by omega)]; rfl
      have g1 : decide ((s.size : Int) > 16384) = false := by simp; omega
      have HS0 : Hid (s.data.toList = encTo cs s.data.toList 0) := rfl
      clear hc0 hlen hL
      generalize EncR cs s.data.toList = E at *
      generalize hLL : s.data.toList = L at *
      have HLL := Lib.hid hLL
      clear hLL
      generalize hn : cs.length = n at *
      have HN := Lib.hid hn
      clear hn
      go_enter Try.func9, Try.ntmps9
      go_wp2_with fail
      ((with_reducible refine HC.out.mono ?_); rintro e w2 ⟨rfl, hb2⟩)
      have HB2 := Lib.hid hb2
      clear hb2 HC
      go_wp2_with fail
      go_loopw [1, 8, 19] (fun v1 _ v19 wr => ∃ (i : Nat) (r : ByteArray), i ≤ n ∧ v19 = .int .i64 i ∧ v1 = .string r ∧ r.data.toList = encTo cs L i ∧ Below w.heap.size w wr) (fun _ _ v19 _ => n - (intOf v19).toNat)
      case atStart => exact ⟨0, s, Nat.zero_le _, rfl, rfl, HLL.out.trans HS0.out, HB2.out⟩
      case round =>
        obtain ⟨i, r, hi, rfl, rfl, hr, hb⟩ := hrel
        have HB := Lib.hid hb
        clear hb HB2 HS0
        have hrs : r.size ≤ 40000 := by
          have h1 := HBd.out i
          have h2 := bd_le (i := i) (by omega)
          rw [← hr] at h1
          have h3 : r.data.toList.length = r.size := by simp
          omega
        by_cases hlt : i < n
        · have t0 : decide ((i : Int) < (n : Int)) = true := by simp; omega
          obtain ⟨b, off, hA, hbl, q0, q1⟩ := (HM.out.later HB.out).at_ (i := i) (by rw [HN.out]; exact hlt)
          subst hA
          have hsk := step_kinds (hst i hlt)
          have HSt : Hid (encTo cs L (i + 1) = encS (cs.getD i (0, 0)) (encTo cs L i)) := rfl
          have HBa := Lib.hid (HB.out.trans (((Below.refl wr.heap.size wr).alloc (Nat.le_refl _) (.cells #[.int .i64 (cs.getD i (0, 0)).1, .int .i64 (cs.getD i (0, 0)).2] 27)).mono HB.out.size))
          generalize cs.getD i (0, 0) = x at *
          obtain ⟨k, m⟩ := x
          dsimp only at q0 q1 HBa hsk
          rcases hsk with ⟨hk, hm⟩ | ⟨hk, hm1, hm2⟩ | ⟨hk, hm⟩ | ⟨hk, hm⟩
          · try dsimp only at hk hm
            subst hk
            subst hm
            have HEn : Hid (∀ W, Calls Try.prog 32 #[.agg #[], .string r] W fun e w' => e = .returned (.string ⟨(encTo cs L (i + 1)).toArray⟩) ∧ Below W.heap.size W w') := fun W => by
              rw [HSt.out, ← hr]
              have := runs_enc r W (by omega)
              simpa [encS] using this
            have HCd := Lib.hid (fun W => coding_run 0 W)
            clear hst HSt hr
            go_wp2_with fail
            ((with_reducible refine (HCd.out _).mono ?_); rintro e w2 ⟨rfl, hb2⟩)
            have HB2 := Lib.hid (HBa.out.trans (hb2.mono HBa.out.size))
            clear hb2 HCd
            have hm9 := me1
            go_wp2_with fail
            ((with_reducible refine (HEn.out _).mono ?_); rintro e w3 ⟨rfl, hb3⟩)
            have HB3 := Lib.hid (HB2.out.trans (hb3.mono HB2.out.size))
            clear hb3 HEn hm9
            go_wp2_with fail
            go_roundw
            case rel => exact ⟨i + 1, _, by omega, by go_num, rfl, by simp, HB3.out⟩
            case measure => simp [intOf]; omega
          · try dsimp only at hk hm1 hm2
            subst hk
            have HEn : Hid (∀ W, Calls Try.prog 50 #[.agg #[.int .i64 m], .string r] W fun e w' => e = .returned (.string ⟨(encTo cs L (i + 1)).toArray⟩) ∧ Below W.heap.size W w') := fun W => by
              rw [HSt.out, ← hr]
              obtain ⟨p, rfl⟩ : ∃ p : Nat, m = p := ⟨m.toNat, by omega⟩
              have := rows_enc p r W (by omega) (by omega) (by omega)
              simpa [encS] using this
            have HCd := Lib.hid (fun W => coding_row' m W)
            clear hst HSt hr
            go_wp2_with fail
            ((with_reducible refine (HCd.out _).mono ?_); rintro e w2 ⟨rfl, hb2⟩)
            have HB2 := Lib.hid (HBa.out.trans (hb2.mono HBa.out.size))
            clear hb2 HCd
            have hm9 := me2 m
            go_wp2_with fail
            ((with_reducible refine (HEn.out _).mono ?_); rintro e w3 ⟨rfl, hb3⟩)
            have HB3 := Lib.hid (HB2.out.trans (hb3.mono HB2.out.size))
            clear hb3 HEn hm9
            go_wp2_with fail
            go_roundw
            case rel => exact ⟨i + 1, _, by omega, by go_num, rfl, by simp, HB3.out⟩
            case measure => simp [intOf]; omega
          · try dsimp only at hk hm
            subst hk
            subst hm
            have HEn : Hid (∀ W, Calls Try.prog 52 #[.agg #[], .string r] W fun e w' => e = .returned (.string ⟨(encTo cs L (i + 1)).toArray⟩) ∧ Below W.heap.size W w') := fun W => by
              rw [HSt.out, ← hr]
              have := copies_enc r W (by omega)
              simpa [encS] using this
            have HCd := Lib.hid (fun W => coding_copy 0 W)
            clear hst HSt hr
            go_wp2_with fail
            ((with_reducible refine (HCd.out _).mono ?_); rintro e w2 ⟨rfl, hb2⟩)
            have HB2 := Lib.hid (HBa.out.trans (hb2.mono HBa.out.size))
            clear hb2 HCd
            have hm9 := me3
            go_wp2_with fail
            ((with_reducible refine (HEn.out _).mono ?_); rintro e w3 ⟨rfl, hb3⟩)
            have HB3 := Lib.hid (HB2.out.trans (hb3.mono HB2.out.size))
            clear hb3 HEn hm9
            go_wp2_with fail
            go_roundw
            case rel => exact ⟨i + 1, _, by omega, by go_num, rfl, by simp, HB3.out⟩
            case measure => simp [intOf]; omega
          · try dsimp only at hk hm
            subst hk
            subst hm
            have HEn : Hid (∀ W, Calls Try.prog 57 #[.agg #[], .string r] W fun e w' => e = .returned (.string ⟨(encTo cs L (i + 1)).toArray⟩) ∧ Below W.heap.size W w') := fun W => by
              rw [HSt.out, ← hr]
              have := encode_any r W (by omega)
              simpa [encS] using this
            have HCd := Lib.hid (fun W => coding_text' 0 W)
            clear hst HSt hr
            go_wp2_with fail
            ((with_reducible refine (HCd.out _).mono ?_); rintro e w2 ⟨rfl, hb2⟩)
            have HB2 := Lib.hid (HBa.out.trans (hb2.mono HBa.out.size))
            clear hb2 HCd
            have hm9 := me4
            go_wp2_with fail
            ((with_reducible refine (HEn.out _).mono ?_); rintro e w3 ⟨rfl, hb3⟩)
            have HB3 := Lib.hid (HB2.out.trans (hb3.mono HB2.out.size))
            clear hb3 HEn hm9
            go_wp2_with fail
            go_roundw
            case rel => exact ⟨i + 1, _, by omega, by go_num, rfl, by simp, HB3.out⟩
            case measure => simp [intOf]; omega
        · have t0 : decide ((i : Int) < (n : Int)) = false := by simp; omega
          have hin : i = n := by omega
          subst hin
          have hre : (⟨(encTo cs L i).toArray⟩ : ByteArray) = r := by rw [← hr]
          have HE2 : Hid ((r.data.toList, 0) = E) := by rw [hr]; exact HE.out.symm
          have HCl := Lib.hid (fun W => clone_str r W (by omega))
          clear hr hre HE
          go_wp2_with fail
          ((with_reducible refine (HCl.out _).mono ?_); rintro e w3 ⟨rfl, hb3⟩)
          have HB3 := Lib.hid (HB.out.trans (hb3.mono HB.out.size))
          clear hb3
          go_wp2_with fail
          exact HP.out _ HB3.out (r.data.toList, 0) HE2.out
  · have HE : Hid (([], chkR cs) = EncR cs s.data.toList) := by unfold Hid EncR; rw [if_pos hc0]
    have g1 : (chkR cs != 0) = true := by simpa using hc0
    clear hc0 hlen
    generalize chkR cs = c at *
    go_enter Try.func9, Try.ntmps9
    go_wp2_with fail
    ((with_reducible refine HC.out.mono ?_); rintro e w2 ⟨rfl, hb2⟩)
    have HB2 := Lib.hid hb2
    clear hb2
    go_wp2_with fail
    exact HP.out _ HB2.out ([], c) HE.out
end Go.Proofs.Ytdibgloaknnfgaa
