/- Chains of codings in memory; the walks of Check and codingOf at any chain. -/
import Derived.Test.YtdibgloaknnfgaaFltCopE
import Derived.Test.YtdibgloaknnfgaaFltTxtP
namespace Go.Proofs.Ytdibgloaknnfgaa
open Go.RowKit
abbrev Stp := Int × Int
def stepE (x : Stp) : Int := if x.1 < 1 ∨ 4 < x.1 then 14 else if x.1 = 2 ∧ (x.2 < 1 ∨ 1024 < x.2) then 3 else if x.1 ≠ 2 ∧ x.2 ≠ 0 then 4 else 0
def chkL : List Stp → Int
  | [] => 0
  | x :: r => if stepE x ≠ 0 then stepE x else chkL r
/-- The first error of a chain. -/
def chkR (cs : List Stp) : Int := if 4 < cs.length then 2 else chkL cs
/-- The slice v reads as the chain cs. -/
def ChM (w : World) (v : Value) (cs : List Stp) : Prop := ∃ A cap, v = .slice A cs.length cap ∧ cs.length ≤ cap ∧ cap ≤ maxLen ∧ (0 < cs.length → ∃ b off, A = some ⟨b, off, none⟩ ∧ b < w.heap.size ∧
  ∀ i, i < cs.length → w.cell? ⟨b, off + i * 2, none⟩ = some (.int .i64 (cs.getD i (0, 0)).1) ∧ w.cell? ⟨b, off + i * 2 + 1, none⟩ = some (.int .i64 (cs.getD i (0, 0)).2))
theorem ChM.later {w w' : World} {v : Value} {cs : List Stp} (h : ChM w v cs) (hb : Below w.heap.size w w') : ChM w' v cs := by
  obtain ⟨A, cap, h1, h2, h3, h4⟩ := h
  refine ⟨A, cap, h1, h2, h3, fun hn => ?_⟩
  obtain ⟨b, off, k1, k2, k3⟩ := h4 hn
  exact ⟨b, off, k1, Nat.lt_of_lt_of_le k2 hb.size, fun i hi => ⟨(hb.cell (p := ⟨b, off + i * 2, none⟩) k2).trans (k3 i hi).1, (hb.cell (p := ⟨b, off + i * 2 + 1, none⟩) k2).trans (k3 i hi).2⟩⟩
theorem ChM.at_ {w : World} {A : Option Addr} {n cap : Nat} {cs : List Stp} (h : ChM w (.slice A n cap) cs) {i : Nat} (hi : i < cs.length) : ∃ b off, A = some ⟨b, off, none⟩ ∧ b < w.heap.size ∧
    w.cell? ⟨b, off + i * 2, none⟩ = some (.int .i64 (cs.getD i (0, 0)).1) ∧ w.cell? ⟨b, off + i * 2 + 1, none⟩ = some (.int .i64 (cs.getD i (0, 0)).2) := by
  obtain ⟨A', cap', h1, h2, h3, h4⟩ := h
  obtain ⟨b, off, k1, k2, k3⟩ := h4 (by omega)
  injection h1 with h1
  exact ⟨b, off, h1.trans k1, k2, (k3 i hi).1, (k3 i hi).2⟩
theorem drop_getD (cs : List Stp) {i : Nat} (h : i < cs.length) : cs.drop i = cs.getD i (0, 0) :: cs.drop (i + 1) := by
  rw [List.drop_eq_getElem_cons h, List.getD_eq_getElem?_getD, List.getElem?_eq_getElem h]; rfl
set_option maxRecDepth 100000 in
set_option maxHeartbeats 4000000 in
theorem check_any (cs : List Stp) (v : Value) (w : World) (h : ChM w v cs) :
    Calls Try.prog 12 #[v] w fun e w' => e = .returned (.int .i64 (chkR cs)) ∧ Below w.heap.size w w' := by
  obtain ⟨A, cap, rfl, -⟩ := id h
  have HM := Lib.hid h
  have HD : Hid (∀ i, i < cs.length → cs.drop i = cs.getD i (0, 0) :: cs.drop (i + 1)) := fun i hi => drop_getD cs hi
  clear h
  by_cases h4 : 4 < cs.length
  · have g0 : decide ((cs.length : Int) > 4) = true := by simp; omega
    have HE : Hid (chkR cs = 2) := by unfold Hid chkR; rw [if_pos h4]
    generalize chkR cs = E at *
    generalize cs.length = n at *
    go_enter Try.func12, Try.ntmps12
    go_wp2_with fail
    go_ret
    exact ⟨by rw [HE.out]; rfl, Below.refl _ _⟩
  · have g0 : decide ((cs.length : Int) > 4) = false := by simp; omega
    have HE : Hid (chkR cs = chkL (cs.drop 0)) := by unfold Hid chkR; rw [if_neg h4]; rfl
    generalize chkR cs = E at *
    have HLn := Lib.hid (rfl : cs.length = cs.length)
    generalize hn : cs.length = n at *
    have HN := Lib.hid hn
    clear hn HLn
    have hn4 : n ≤ 4 := by omega
    go_enter Try.func12, Try.ntmps12
    go_wp2_with fail
    go_loopw [4, 10, 14, 23, 37] (fun _ v10 _ _ _ wr => ∃ i : Nat, i ≤ n ∧ v10 = .int .i64 i ∧ E = chkL (cs.drop i) ∧ Below w.heap.size w wr) (fun _ v10 _ _ _ _ => n - (intOf v10).toNat)
    case atStart => exact ⟨0, Nat.zero_le _, rfl, HE.out, Below.refl _ _⟩
    case round =>
      obtain ⟨i, hi, rfl, he, hb⟩ := hrel
      have HE2 := Lib.hid he
      have HB := Lib.hid hb
      clear he hb HE
      by_cases hlt : i < n
      · have t0 : decide ((i : Int) < (n : Int)) = true := by simp; omega
        obtain ⟨b, off, hA, hbl, q0, q1⟩ := (HM.out.later HB.out).at_ (i := i) (by rw [HN.out]; exact hlt)
        subst hA
        have HS : Hid (E = if stepE (cs.getD i (0, 0)) ≠ 0 then stepE (cs.getD i (0, 0)) else chkL (cs.drop (i + 1))) := by
          unfold Hid; rw [HE2.out, HD.out i hlt]; rfl
        clear HE2
        generalize cs.getD i (0, 0) = x at *
        obtain ⟨k, m⟩ := x
        dsimp only at q0 q1
        by_cases k1 : k < 1
        · have g1 : decide (k < 1) = true := by simpa using k1
          have HR : Hid (E = 14) := by unfold Hid; rw [HS.out]; simp [stepE, k1]
          go_wp2_with fail
          go_ret
          exact ⟨by rw [HR.out]; rfl, HB.out.trans (((Below.refl _ _).alloc (Nat.le_refl _) _).mono HB.out.size)⟩
        · have g1 : decide (k < 1) = false := by simpa using k1
          by_cases k4 : k > 4
          · have g2 : decide (k > 4) = true := by simpa using k4
            have HR : Hid (E = 14) := by unfold Hid; rw [HS.out]; simp [stepE, k4]
            go_wp2_with fail
            go_ret
            exact ⟨by rw [HR.out]; rfl, HB.out.trans (((Below.refl _ _).alloc (Nat.le_refl _) _).mono HB.out.size)⟩
          · have g2 : decide (k > 4) = false := by simpa using k4
            by_cases k2 : k = 2
            · have g3 : (k == 2) = true := by simpa using k2
              have g4 : (k != 2) = false := by simpa using k2
              by_cases m1 : m < 1
              · have g5 : decide (m < 1) = true := by simpa using m1
                have HR : Hid (E = 3) := by unfold Hid; rw [HS.out]; simp [stepE, k2, m1]
                go_wp2_with fail
                go_ret
                exact ⟨by rw [HR.out]; rfl, HB.out.trans (((Below.refl _ _).alloc (Nat.le_refl _) _).mono HB.out.size)⟩
              · have g5 : decide (m < 1) = false := by simpa using m1
                by_cases m4 : m > 1024
                · have g6 : decide (m > 1024) = true := by simpa using m4
                  have HR : Hid (E = 3) := by unfold Hid; rw [HS.out]; simp [stepE, k2, m4]
                  go_wp2_with fail
                  go_ret
                  exact ⟨by rw [HR.out]; rfl, HB.out.trans (((Below.refl _ _).alloc (Nat.le_refl _) _).mono HB.out.size)⟩
                · have g6 : decide (m > 1024) = false := by simpa using m4
                  have HR : Hid (E = chkL (cs.drop (i + 1))) := by
                    have hz : stepE (k, m) = 0 := by unfold stepE; rw [if_neg (by omega), if_neg (by omega), if_neg (by omega)]
                    unfold Hid; rw [HS.out, hz]; rfl
                  clear k2
                  go_wp2_with fail
                  go_roundw
                  case rel => exact ⟨i + 1, by omega, by go_num, HR.out, HB.out.trans (((Below.refl _ _).alloc (Nat.le_refl _) _).mono HB.out.size)⟩
                  case measure => simp [intOf]; omega
            · have g3 : (k == 2) = false := by simpa using k2
              have g4 : (k != 2) = true := by simpa using k2
              by_cases m0 : m = 0
              · have g5 : (m != 0) = false := by simpa using m0
                have HR : Hid (E = chkL (cs.drop (i + 1))) := by
                  have hz : stepE (k, m) = 0 := by unfold stepE; rw [if_neg (by omega), if_neg (by omega), if_neg (by omega)]
                  unfold Hid; rw [HS.out, hz]; rfl
                clear m0
                go_wp2_with fail
                go_roundw
                case rel => exact ⟨i + 1, by omega, by go_num, HR.out, HB.out.trans (((Below.refl _ _).alloc (Nat.le_refl _) _).mono HB.out.size)⟩
                case measure => simp [intOf]; omega
              · have g5 : (m != 0) = true := by simpa using m0
                have HR : Hid (E = 4) := by
                  have hz : stepE (k, m) = 4 := by unfold stepE; rw [if_neg (by omega), if_neg (by omega), if_pos ⟨k2, m0⟩]
                  unfold Hid; rw [HS.out, hz]; rfl
                go_wp2_with fail
                go_ret
                exact ⟨by rw [HR.out]; rfl, HB.out.trans (((Below.refl _ _).alloc (Nat.le_refl _) _).mono HB.out.size)⟩
      · have t0 : decide ((i : Int) < (n : Int)) = false := by simp; omega
        have HR : Hid (E = 0) := by unfold Hid; rw [HE2.out, List.drop_eq_nil_iff.2 (by rw [HN.out]; omega)]; rfl
        go_wp2_with fail
        go_ret
        exact ⟨by rw [HR.out]; rfl, HB.out⟩
end Go.Proofs.Ytdibgloaknnfgaa
