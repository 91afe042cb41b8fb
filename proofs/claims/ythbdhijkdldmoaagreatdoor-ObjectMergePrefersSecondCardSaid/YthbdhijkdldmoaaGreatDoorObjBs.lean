/- The walk of slices.BinarySearch at strings. -/
import Derived.Test.YthbdhijkdldmoaaGreatDoorObjMem
import Derived.Test.YthbdhijkdldmoaaGreatDoorTokSmall
import Derived.Test.YthbdhijkdldmoaaGreatDoorTokCur
import Derived.Test.YthbdhijkdldmoaaGreatDoorTokWord
namespace Go.Proofs.YthbdhijkdldmoaaGreatDoor
open Go.RowKit Tk Ob
theorem isNaN_any (s : ByteArray) (w : World) : Calls Tryz.prog 70 #[.string s] w fun e w' => e = .returned (.bool false) ∧ w' = w := by
  go_enter Tryz.func70, Tryz.ntmps70
  go_wp2_with fail
  go_ret
  exact ⟨rfl, rfl⟩
theorem isNaN2_any (s : ByteArray) (w : World) : Calls Tryz.prog 53 #[.string s] w fun e w' => e = .returned (.bool false) ∧ w' = w := by
  go_enter Tryz.func53, Tryz.ntmps53
  go_wp2_with fail
  go_ret
  exact ⟨rfl, rfl⟩
theorem lss_ltB : ∀ a b : Tk.Src, Op.bytesLess a b = ltB a b
  | [], [] => rfl
  | [], _ :: _ => rfl
  | _ :: _, [] => rfl
  | a :: r, b :: s => by
    simp only [Op.bytesLess, ltB]
    rw [lss_ltB r s]
    by_cases h1 : a < b
    · simp [h1]
    · by_cases h2 : b < a
      · have : (a == b) = false := by
          rw [beq_eq_false_iff_ne]; rintro rfl; exact h1 h2
        simp [h1, h2, this]
      · have : (a == b) = true := by
          rw [beq_iff_eq]
          rw [UInt8.lt_iff_toNat_lt] at h1 h2
          exact UInt8.toNat_inj.1 (by omega)
        simp [h1, h2, this]
theorem less_any (s t : ByteArray) (w : World) : Calls Tryz.prog 52 #[.string s, .string t] w fun e w' => e = .returned (.bool (ltB (bys s) (bys t))) ∧ w' = w := by
  have h : Op.bytesLess s.toList t.toList = ltB (bys s) (bys t) := by rw [lss_ltB, Lib.toList_data, Lib.toList_data]; rfl
  have H := Lib.hid h
  clear h
  go_enter Tryz.func52, Tryz.ntmps52
  go_wp2_with ((go_at_call 70; refine (isNaN_any _ _).mono ?_; rintro e w' ⟨rfl, rfl⟩))
  go_ret
  exact ⟨by rw [← H.out]; rfl, rfl⟩
/-! The place of a key. -/
theorem pos_lt : ∀ (ks : List Tk.Src) (x : Tk.Src) (k : Nat) (h : k < ks.length), k < (posK ks x).1 → ltB ks[k] x = true
  | a :: r, x, 0, h, hp => by
    simp only [posK] at hp
    split at hp
    · assumption
    · omega
  | a :: r, x, k + 1, h, hp => by
    simp only [posK] at hp
    split at hp
    · dsimp only at hp
      exact pos_lt r x k (by simpa using h) (by omega)
    · omega
theorem pos_ge : ∀ (ks : List Tk.Src) (x : Tk.Src) (k : Nat) (h : k < ks.length), Sorted ks → (posK ks x).1 ≤ k → ltB ks[k] x = false
  | a :: r, x, 0, h, hs, hp => by
    simp only [posK] at hp
    split at hp
    · dsimp only at hp; omega
    · rename_i h1; simpa using h1
  | a :: r, x, k + 1, h, hs, hp => by
    simp only [posK] at hp
    split at hp
    · dsimp only at hp
      exact pos_ge r x k (by simpa using h) hs.tail (by omega)
    · rename_i h1
      have hk : k < r.length := by simpa using h
      have h2 : ltB a r[k] = true := (List.pairwise_cons.1 hs).1 _ (List.getElem_mem _)
      show ltB r[k] x = false
      cases h3 : ltB r[k] x with
      | false => rfl
      | true => exact absurd (ltB_trans _ _ _ h2 h3) h1
theorem pos_found : ∀ (ks : List Tk.Src) (x : Tk.Src), (posK ks x).2 = true ↔ ∃ h : (posK ks x).1 < ks.length, ks[(posK ks x).1] = x
  | [], x => by simp [posK]
  | a :: r, x => by
    have ih := pos_found r x
    by_cases h : ltB a x = true
    · have e : posK (a :: r) x = (1 + (posK r x).1, (posK r x).2) := by simp only [posK]; rw [if_pos h]
      rw [e]
      dsimp only
      rw [ih]
      refine ⟨fun ⟨h1, h2⟩ => ⟨by simp only [List.length_cons]; omega, ?_⟩, fun ⟨h1, h2⟩ => ⟨by simp only [List.length_cons] at h1; omega, ?_⟩⟩
      · simp only [Nat.add_comm 1, List.getElem_cons_succ]; exact h2
      · simpa only [Nat.add_comm 1, List.getElem_cons_succ] using h2
    · have e : posK (a :: r) x = (0, decide (a = x)) := by simp only [posK]; rw [if_neg h]
      rw [e]
      simp
theorem endIB {k : Int} {a b : Bool} (h : b = a) : Ending.returned (.tuple #[.int .i64 k, .bool a]) = .returned (.tuple #[.int .i64 k, .bool b]) := by rw [h]
set_option maxRecDepth 100000 in
set_option maxHeartbeats 4000000 in
theorem bs_any (ks : List Tk.Src) (x : Tk.Src) (v : Value) (ok : Nat → Prop) (w : World) (h : Sl w ok v (strs ks)) (hn : ks.length ≤ 1000) (hs : Sorted ks) :
    Calls Tryz.prog 29 #[v, .string ⟨x.toArray⟩] w fun e w' => e = .returned (.tuple #[.int .i64 ((posK ks x).1 : Nat), .bool (posK ks x).2]) ∧ Same w w' := by
  have HLt := Lib.hid (pos_lt ks x)
  have HGe := Lib.hid fun k hk => pos_ge ks x k hk hs
  have HFd := Lib.hid (pos_found ks x)
  have hp := pos_le ks x
  have hsl : (strs ks).length = ks.length := by simp [strs]
  obtain ⟨A, cm, rfl⟩ := h.form
  have hcm := h.cap_le
  rw [hsl] at hcm
  have HCell : Hid (0 < ks.length → ∃ b off, A = some ⟨b, off, none⟩ ∧ b < w.heap.size ∧ ∀ k (hk : k < ks.length), w.cell? ⟨b, off + k, none⟩ = some (.string ⟨(ks[k]).toArray⟩)) := fun h0 => by
    obtain ⟨b, off, e, h1, h2⟩ := h.plainA (by rw [hsl]; exact h0)
    exact ⟨b, off, e, h1, fun k hk => h2 k _ (by simp [strs, hk])⟩
  rw [hsl] at h ⊢
  generalize hfd : (posK ks x).2 = fd at *
  generalize (posK ks x).1 = p at *
  obtain ⟨V, hV⟩ : ∃ V : ByteArray, V = ⟨x.toArray⟩ := ⟨_, rfl⟩
  rw [← hV]
  have HV : Hid (bys V = x) := by unfold Hid; rw [hV]; exact int_bys x
  have HFe := Lib.hid hfd
  clear h hV hs hsl hfd
  unfold maxLen at hcm
  go_enter Tryz.func29, Tryz.ntmps29
  go_wp2_with fail
  go_loop [7, 8] (fun s7 s8 => ∃ lo hi : Nat, s7 = .int .i64 lo ∧ s8 = .int .i64 hi ∧ lo ≤ p ∧ p ≤ hi ∧ hi ≤ ks.length) (fun s7 s8 => (intOf s8).toNat - (intOf s7).toNat)
  case atStart => exact ⟨0, ks.length, rfl, rfl, Nat.zero_le _, hp, Nat.le_refl _⟩
  case round =>
    obtain ⟨lo, hi, rfl, rfl, h1, h2, h3⟩ := hrel
    by_cases hlt : lo < hi
    · obtain ⟨b, off, rfl, hbl, hc⟩ := HCell.out (by omega)
      have hm : (lo + hi) / 2 < ks.length := by omega
      have hcm1 := hc ((lo + hi) / 2) hm
      have HL := Lib.hid fun W => less_any ⟨(ks[(lo + hi) / 2]).toArray⟩ V W
      have hlg := HLt.out ((lo + hi) / 2) hm
      have hgg := HGe.out ((lo + hi) / 2) hm
      rw [int_bys, HV.out] at HL
      generalize ks[(lo + hi) / 2] = km at *
      clear hc
      cases hx : ltB km x with
      | true =>
        rw [hx] at HL
        have hq : (lo + hi) / 2 < p := by
          rcases Nat.lt_or_ge ((lo + hi) / 2) p with h | h
          · exact h
          · have := hgg h; rw [hx] at this; cases this
        clear hx hlg hgg
        go_wp2_with (go_at_call 52; refine (HL.out _).mono ?_; rintro e w5 ⟨rfl, rfl⟩)
        go_round
        case rel => exact ⟨(lo + hi) / 2 + 1, hi, by rw [show ((lo : Int) + (hi : Int)) / 2 + 1 = (((lo + hi) / 2 + 1 : Nat) : Int) by omega], rfl, by omega, by omega, by omega⟩
        case measure => simp [intOf]; omega
      | false =>
        rw [hx] at HL
        have hq : p ≤ (lo + hi) / 2 := by
          rcases Nat.lt_or_ge ((lo + hi) / 2) p with h | h
          · have := hlg h; rw [hx] at this; cases this
          · exact h
        clear hx hlg hgg
        go_wp2_with (go_at_call 52; refine (HL.out _).mono ?_; rintro e w5 ⟨rfl, rfl⟩)
        go_round
        case rel => exact ⟨lo, (lo + hi) / 2, rfl, by rw [show ((lo : Int) + (hi : Int)) / 2 = (((lo + hi) / 2 : Nat) : Int) by omega], by omega, by omega, by omega⟩
        case measure => simp [intOf]; omega
    · obtain rfl : lo = p := by omega
      obtain rfl : hi = lo := by omega
      clear h1 h2 hlt
      by_cases hin : hi < ks.length
      · obtain ⟨b, off, rfl, hbl, hc⟩ := HCell.out (by omega)
        have hcm1 := hc hi hin
        have hfd : fd = true ↔ ks[hi] = x := by
          rw [HFd.out]; exact ⟨fun ⟨_, h⟩ => h, fun h => ⟨hin, h⟩⟩
        have HKm : Hid (((⟨(ks[hi]).toArray⟩ : ByteArray).toList == V.toList) = fd) := by
          unfold Hid
          rw [Lib.toList_data, Lib.toList_data, show V.data.toList = x from HV.out]
          rw [Bool.eq_iff_iff, hfd]; simp
        generalize (⟨(ks[hi]).toArray⟩ : ByteArray) = km at *
        clear hc hfd
        have hin1 : (hi : Int) < (ks.length : Int) := by omega
        have hd1 : decide ((hi : Int) < (ks.length : Int)) = true := decide_eq_true hin1
        cases hx : (km.toList == V.toList) with
        | true =>
          have HX : Hid (fd = true) := HKm.out.symm.trans hx
          clear HKm
          go_wp2_with ((go_at_call 53; refine (isNaN2_any _ _).mono ?_; rintro e w5 ⟨rfl, rfl⟩))
          go_ret2
          exact ⟨endIB HX.out, Same.refl _⟩
        | false =>
          have HX : Hid (fd = false) := HKm.out.symm.trans hx
          clear HKm
          go_wp2_with ((go_at_call 53; refine (isNaN2_any _ _).mono ?_; rintro e w5 ⟨rfl, rfl⟩))
          go_ret2
          exact ⟨endIB HX.out, Same.refl _⟩
      · have hii : hi = ks.length := by omega
        have HX : Hid (fd = false) := by
          unfold Hid
          rw [← Bool.not_eq_true]; intro h
          exact hin (HFd.out.1 h).1
        have hin2 : ¬ ((hi : Int) < (ks.length : Int)) := by omega
        have hd1 : decide ((hi : Int) < (ks.length : Int)) = false := decide_eq_false hin2
        clear hii hin
        go_wp2_with fail
        go_ret2
        exact ⟨endIB HX.out, Same.refl _⟩
end Go.Proofs.YthbdhijkdldmoaaGreatDoor
