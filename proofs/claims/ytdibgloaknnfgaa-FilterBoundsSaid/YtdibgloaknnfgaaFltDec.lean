/- The walk of Decode at a chain's code. -/
import Derived.Test.YtdibgloaknnfgaaFltEnc
namespace Go.Proofs.Ytdibgloaknnfgaa
open Go.RowKit
set_option maxRecDepth 100000 in
set_option maxHeartbeats 8000000 in
theorem decode_chain (cs : List Stp) (v : Value) (L : List UInt8) (s : ByteArray) (w : World) (h : ChM w v cs) (hc0 : chkR cs = 0) (hL : L.length ≤ 16384) (hs : s.data.toList = encA cs L) :
    Calls Try.prog 11 #[v, .string s] w (UngPost w (L, 0)) := by
  have HP : Hid (∀ w', Below w.heap.size w w' → ∀ r : List UInt8 × Int, r = (L, 0) → UngPost w (L, 0) (.returned (.tuple #[.string ⟨r.1.toArray⟩, .int .i64 r.2])) w') := fun w' hb r h => by rw [h]; exact ⟨rfl, hb⟩
  have HC := Lib.hid (check_any cs v w h)
  rw [hc0] at HC
  obtain ⟨A, cap, rfl, -⟩ := id h
  have HM := Lib.hid h
  obtain ⟨hl4, hst⟩ := chkR_ok hc0
  have HBd : Hid (∀ i, i ≤ 4 → (encTo cs L i).length ≤ 40000) := fun i hi => Nat.le_trans (encTo_bound cs L hL i) (bd_le hi)
  have hsz : s.size ≤ 40000 := by
    have h1 := HBd.out cs.length hl4
    have h2 : s.data.toList.length = s.size := by simp
    rw [hs] at h2
    unfold encA at h2
    omega
  have g1 : decide ((s.size : Int) > 65536) = false := by simp; omega
  have HS0 : Hid (s.data.toList = encTo cs L cs.length) := hs
  have HZ : Hid (encTo cs L 0 = L) := rfl
  have HLl := Lib.hid hL
  clear h hc0 hs hL
  generalize hPo : UngPost w (L, 0) = Post at *
  clear hPo
  generalize hn : cs.length = n at *
  have HN := Lib.hid hn
  clear hn
  go_enter Try.func11, Try.ntmps11
  go_wp2_with fail
  ((with_reducible refine HC.out.mono ?_); rintro e w2 ⟨rfl, hb2⟩)
  have HB2 := Lib.hid hb2
  clear hb2 HC
  go_wp2_with fail
  go_loopw [1, 7, 8] (fun v1 v7 _ wr => ∃ (i : Nat) (r : ByteArray), i ≤ n ∧ v7 = .int .i64 ((i : Int) - 1) ∧ v1 = .string r ∧ r.data.toList = encTo cs L i ∧ Below w.heap.size w wr) (fun _ v7 _ _ => (intOf v7 + 1).toNat)
  case atStart => exact ⟨n, s, Nat.le_refl _, rfl, rfl, HS0.out, HB2.out⟩
  case round =>
    obtain ⟨i, r, hi, rfl, rfl, hr, hb⟩ := hrel
    have HB := Lib.hid hb
    clear hb HB2 HS0
    have hrs : r.size ≤ 40000 := by
      have h1 := HBd.out i (by omega)
      rw [← hr] at h1
      have h3 : r.data.toList.length = r.size := by simp
      omega
    cases i with
    | zero =>
      rw [show ((0 : Nat) : Int) - 1 = -1 from rfl]
      have hr16 : r.size ≤ 16384 := by
        have h3 : r.data.toList.length = r.size := by simp
        rw [hr, HZ.out] at h3
        have := HLl.out
        omega
      have HE : Hid ((r.data.toList, (0 : Int)) = (L, 0)) := by unfold Hid; rw [hr, HZ.out]
      have HCl := Lib.hid (fun W => clone_str r W (by omega))
      clear hr
      go_wp2_with fail
      ((with_reducible refine (HCl.out _).mono ?_); rintro e w3 ⟨rfl, hb3⟩)
      have HB3 := Lib.hid (HB.out.trans (hb3.mono HB.out.size))
      clear hb3
      go_wp2_with fail
      exact HP.out _ HB3.out (r.data.toList, 0) HE.out
    | succ q =>
      rw [show ((q + 1 : Nat) : Int) - 1 = (q : Int) by omega]
      obtain ⟨b, off, hA, hbl, q0, q1⟩ := (HM.out.later HB.out).at_ (i := q) (by rw [HN.out]; omega)
      subst hA
      have hsk := step_kinds (hst q (by omega))
      have HSt : Hid (encTo cs L (q + 1) = encS (cs.getD q (0, 0)) (encTo cs L q)) := rfl
      have hq40 := HBd.out q (by omega)
      generalize cs.getD q (0, 0) = x at *
      obtain ⟨k, m⟩ := x
      dsimp only at q0 q1 hsk
      rcases hsk with ⟨hk, hm⟩ | ⟨hk, hm1, hm2⟩ | ⟨hk, hm⟩ | ⟨hk, hm⟩
      · try dsimp only at hk hm
        subst hk
        subst hm
        have HDn : Hid (∀ W, Calls Try.prog 31 #[.agg #[], .string r] W (UngPost W (encTo cs L q, 0))) := fun W => by
          have := runs_dec r W (by omega)
          rw [hr, HSt.out, show encS ((1, 0) : Stp) (encTo cs L q) = encR (encTo cs L q) by simp [encS], decR_encR _ [] (by simp; omega), List.nil_append] at this
          exact this
        have HCd := Lib.hid (fun W => coding_run 0 W)
        clear hst HSt hr
        go_wp2_with fail
        ((with_reducible refine (HCd.out _).mono ?_); rintro e w2 ⟨rfl, hb2⟩)
        have HB2 := Lib.hid (HB.out.trans (hb2.mono HB.out.size))
        clear hb2 HCd
        have hm9 := md1
        go_wp2_with fail
        ((with_reducible refine (HDn.out _).mono ?_); rintro e w3 ⟨rfl, hb3⟩)
        have HB3 := Lib.hid (HB2.out.trans (hb3.mono HB2.out.size))
        clear hb3 HDn hm9
        generalize hR : encTo cs L q = R at *
        have HRq := Lib.hid hR
        clear hR
        go_wp2_with fail
        go_roundw
        case rel => exact ⟨q, _, by omega, rfl, rfl, by simp; exact HRq.out.symm, HB3.out⟩
        case measure => simp [intOf]
      · try dsimp only at hk hm1 hm2
        subst hk
        have HDn : Hid (∀ W, Calls Try.prog 49 #[.agg #[.int .i64 m], .string r] W (UngPost W (encTo cs L q, 0))) := fun W => by
          obtain ⟨p, rfl⟩ : ∃ p : Nat, m = p := ⟨m.toNat, by omega⟩
          have := rows_dec p r W (by omega) (by omega) (by omega)
          rw [hr, HSt.out, show encS ((2, (p : Int)) : Stp) (encTo cs L q) = encD p (encTo cs L q) by simp [encS], dec_encD (by omega)] at this
          exact this
        have HCd := Lib.hid (fun W => coding_row' m W)
        clear hst HSt hr
        go_wp2_with fail
        ((with_reducible refine (HCd.out _).mono ?_); rintro e w2 ⟨rfl, hb2⟩)
        have HB2 := Lib.hid (HB.out.trans (hb2.mono HB.out.size))
        clear hb2 HCd
        have hm9 := md2 m
        go_wp2_with fail
        ((with_reducible refine (HDn.out _).mono ?_); rintro e w3 ⟨rfl, hb3⟩)
        have HB3 := Lib.hid (HB2.out.trans (hb3.mono HB2.out.size))
        clear hb3 HDn hm9
        generalize hR : encTo cs L q = R at *
        have HRq := Lib.hid hR
        clear hR
        go_wp2_with fail
        go_roundw
        case rel => exact ⟨q, _, by omega, rfl, rfl, by simp; exact HRq.out.symm, HB3.out⟩
        case measure => simp [intOf]
      · try dsimp only at hk hm
        subst hk
        subst hm
        have HDn : Hid (∀ W, Calls Try.prog 51 #[.agg #[], .string r] W (UngPost W (encTo cs L q, 0))) := fun W => by
          have := copies_dec r W (by omega)
          rw [hr, HSt.out, show encS ((3, 0) : Stp) (encTo cs L q) = encC (encTo cs L q) by simp [encS], decC_encC _ (by omega)] at this
          exact this
        have HCd := Lib.hid (fun W => coding_copy 0 W)
        clear hst HSt hr
        go_wp2_with fail
        ((with_reducible refine (HCd.out _).mono ?_); rintro e w2 ⟨rfl, hb2⟩)
        have HB2 := Lib.hid (HB.out.trans (hb2.mono HB.out.size))
        clear hb2 HCd
        have hm9 := md3
        go_wp2_with fail
        ((with_reducible refine (HDn.out _).mono ?_); rintro e w3 ⟨rfl, hb3⟩)
        have HB3 := Lib.hid (HB2.out.trans (hb3.mono HB2.out.size))
        clear hb3 HDn hm9
        generalize hR : encTo cs L q = R at *
        have HRq := Lib.hid hR
        clear hR
        go_wp2_with fail
        go_roundw
        case rel => exact ⟨q, _, by omega, rfl, rfl, by simp; exact HRq.out.symm, HB3.out⟩
        case measure => simp [intOf]
      · try dsimp only at hk hm
        subst hk
        subst hm
        have HDn : Hid (∀ W, Calls Try.prog 56 #[.agg #[], .string r] W (UngPost W (encTo cs L q, 0))) := fun W => by
          have := decode_any r W (by omega)
          rw [hr, HSt.out, show encS ((4, 0) : Stp) (encTo cs L q) = enc (encTo cs L q) by simp [encS], decT_enc _ [] (by simp; omega), List.nil_append] at this
          exact this
        have HCd := Lib.hid (fun W => coding_text' 0 W)
        clear hst HSt hr
        go_wp2_with fail
        ((with_reducible refine (HCd.out _).mono ?_); rintro e w2 ⟨rfl, hb2⟩)
        have HB2 := Lib.hid (HB.out.trans (hb2.mono HB.out.size))
        clear hb2 HCd
        have hm9 := md4
        go_wp2_with fail
        ((with_reducible refine (HDn.out _).mono ?_); rintro e w3 ⟨rfl, hb3⟩)
        have HB3 := Lib.hid (HB2.out.trans (hb3.mono HB2.out.size))
        clear hb3 HDn hm9
        generalize hR : encTo cs L q = R at *
        have HRq := Lib.hid hR
        clear hR
        go_wp2_with fail
        go_roundw
        case rel => exact ⟨q, _, by omega, rfl, rfl, by simp; exact HRq.out.symm, HB3.out⟩
        case measure => simp [intOf]
end Go.Proofs.Ytdibgloaknnfgaa
