/- The walks of the cursor's skip, run and pair. -/
import Derived.Test.YthbdhijkdldmoaaGreatDoorTokSmall
import Derived.Deep.DeepCutAuto
namespace Go.Proofs.YthbdhijkdldmoaaGreatDoor
open Go.RowKit Tk
/-- The bytes of a string. -/
def bys (S : ByteArray) : List UInt8 := S.data.toList
theorem hexV_bt (c : UInt8) : hexV c = if 48 ≤ bt c ∧ bt c ≤ 57 then some (c - 48) else if 97 ≤ bt c ∧ bt c ≤ 102 then some (c - 97 + 10) else if 65 ≤ bt c ∧ bt c ≤ 70 then some (c - 65 + 10) else none := by
  have := u8_all (fun c => hexV c == if 48 ≤ bt c ∧ bt c ≤ 57 then some (c - 48) else if 97 ≤ bt c ∧ bt c ≤ 102 then some (c - 97 + 10) else if 65 ≤ bt c ∧ bt c ≤ 70 then some (c - 65 + 10) else none) (by decide +kernel) c
  simpa using this
def hexR (c : UInt8) : Value := match hexV c with
  | some v => .tuple #[.int .u8 (bt v), .bool true]
  | none => .tuple #[.int .u8 0, .bool false]
theorem hex_any (c : UInt8) (w : World) : Calls Tryz.prog 127 #[.int .u8 (bt c)] w fun e w' => e = .returned (hexR c) ∧ w = w' := by
  have HD := Lib.hid fun W => digit_any c W
  have hb := bt_nn c
  cases hd : digit c
  · rw [hd] at HD
    have h0 : ¬ (48 ≤ bt c ∧ bt c ≤ 57) := fun h => by rw [digit_bt, decide_eq_true h.1, decide_eq_true h.2] at hd; cases hd
    by_cases h1 : 97 ≤ bt c
    · by_cases h2 : bt c ≤ 102
      · have hv : hexR c = .tuple #[.int .u8 (bt c - 97 + 10), .bool true] := by
          unfold hexR
          rw [hexV_bt, if_neg h0, if_pos ⟨h1, h2⟩]
          dsimp only
          have := u8_all (fun c => !(decide (97 ≤ bt c) && decide (bt c ≤ 102)) || decide (bt (c - 97 + 10) = bt c - 97 + 10)) (by decide +kernel) c
          rw [decide_eq_true h1, decide_eq_true h2] at this
          rw [show bt (c - 97 + 10) = bt c - 97 + 10 by simpa using this]
        have HV := Lib.hid hv
        clear hv h0 hd
        generalize bt c = n at *
        go_enter Tryz.func127, Tryz.ntmps127
        go_wp2_with (go_at_call 87; refine (HD.out _).mono ?_; rintro e w1 ⟨rfl, rfl⟩)
        go_ret2
        exact ⟨by rw [HV.out]; rfl, rfl⟩
      · have hv : hexR c = .tuple #[.int .u8 0, .bool false] := by
          unfold hexR
          rw [hexV_bt, if_neg h0, if_neg (fun h => h2 h.2), if_neg (fun h => by omega)]
        have h3 : 65 ≤ bt c := by omega
        have h4 : ¬ bt c ≤ 70 := by omega
        have HV := Lib.hid hv
        clear hv h0 hd
        generalize bt c = n at *
        go_enter Tryz.func127, Tryz.ntmps127
        go_wp2_with (go_at_call 87; refine (HD.out _).mono ?_; rintro e w1 ⟨rfl, rfl⟩)
        go_ret2
        exact ⟨by rw [HV.out]; rfl, rfl⟩
    · by_cases h2 : 65 ≤ bt c
      · by_cases h3 : bt c ≤ 70
        · have hv : hexR c = .tuple #[.int .u8 (bt c - 65 + 10), .bool true] := by
            unfold hexR
            rw [hexV_bt, if_neg h0, if_neg (fun h => h1 h.1), if_pos ⟨h2, h3⟩]
            dsimp only
            have := u8_all (fun c => !(decide (65 ≤ bt c) && decide (bt c ≤ 70)) || decide (bt (c - 65 + 10) = bt c - 65 + 10)) (by decide +kernel) c
            rw [decide_eq_true h2, decide_eq_true h3] at this
            rw [show bt (c - 65 + 10) = bt c - 65 + 10 by simpa using this]
          have HV := Lib.hid hv
          clear hv h0 hd
          generalize bt c = n at *
          go_enter Tryz.func127, Tryz.ntmps127
          go_wp2_with (go_at_call 87; refine (HD.out _).mono ?_; rintro e w1 ⟨rfl, rfl⟩)
          go_ret2
          exact ⟨by rw [HV.out]; rfl, rfl⟩
        · have hv : hexR c = .tuple #[.int .u8 0, .bool false] := by
            unfold hexR
            rw [hexV_bt, if_neg h0, if_neg (fun h => h1 h.1), if_neg (fun h => h3 h.2)]
          have HV := Lib.hid hv
          clear hv h0 hd
          generalize bt c = n at *
          go_enter Tryz.func127, Tryz.ntmps127
          go_wp2_with (go_at_call 87; refine (HD.out _).mono ?_; rintro e w1 ⟨rfl, rfl⟩)
          go_ret2
          exact ⟨by rw [HV.out]; rfl, rfl⟩
      · have hv : hexR c = .tuple #[.int .u8 0, .bool false] := by
          unfold hexR
          rw [hexV_bt, if_neg h0, if_neg (fun h => h1 h.1), if_neg (fun h => h2 h.1)]
        have HV := Lib.hid hv
        clear hv h0 hd
        generalize bt c = n at *
        go_enter Tryz.func127, Tryz.ntmps127
        go_wp2_with (go_at_call 87; refine (HD.out _).mono ?_; rintro e w1 ⟨rfl, rfl⟩)
        go_ret2
        exact ⟨by rw [HV.out]; rfl, rfl⟩
  · rw [hd] at HD
    have h0 : 48 ≤ bt c ∧ bt c ≤ 57 := by rw [digit_bt] at hd; simpa using hd
    obtain ⟨h1, h2⟩ := h0
    have hv : hexR c = .tuple #[.int .u8 (bt c - 48), .bool true] := by
      unfold hexR
      rw [hexV_bt, if_pos ⟨h1, h2⟩]
      dsimp only
      have := u8_all (fun c => !(decide (48 ≤ bt c) && decide (bt c ≤ 57)) || decide (bt (c - 48) = bt c - 48)) (by decide +kernel) c
      rw [decide_eq_true h1, decide_eq_true h2] at this
      rw [show bt (c - 48) = bt c - 48 by simpa using this]
    have HV := Lib.hid hv
    clear hv hd
    generalize bt c = n at *
    go_enter Tryz.func127, Tryz.ntmps127
    go_wp2_with (go_at_call 87; refine (HD.out _).mono ?_; rintro e w1 ⟨rfl, rfl⟩)
    go_ret2
    exact ⟨by rw [HV.out]; rfl, rfl⟩
/-- The byte at a place. -/
theorem idx_byte (S : ByteArray) (p : Nat) (h : p < S.size) : (bys S)[p]? = some (S.get! p) := by
  unfold bys
  have h2 : p < S.data.size := h
  rw [Array.getElem?_toList, Array.getElem?_eq_getElem h2]
  show some _ = some (S.data[p]!)
  rw [getElem!_pos S.data p h2]
theorem bys_len (S : ByteArray) : (bys S).length = S.size := by unfold bys; rw [Array.length_toList]; rfl
theorem drop_byte (S : ByteArray) (q : Nat) (h : q < S.size) : (bys S).drop q = S[q]'h :: (bys S).drop (q + 1) := by
  rw [List.drop_eq_getElem_cons (by rw [bys_len]; exact h)]
  congr 1
theorem bt_ne (c : UInt8) (k : UInt8) (h : c ≠ k) : (bt c == bt k) = false := by
  rw [beq_eq_false_iff_ne]; exact fun e => h (bt_inj e)
theorem bt_bne (c k : UInt8) : (bt c != bt k) = (c != k) := by
  by_cases h : c = k
  · subst h; simp
  · rw [bne, bt_ne c k h, bne]
    have : (c == k) = false := by simpa using h
    rw [this]
set_option maxHeartbeats 4000000 in
theorem skip_any (S : ByteArray) (cb p : Nat) (w : World) (h : Cu w cb S p) (hp : p ≤ S.size) (hs : S.size ≤ 1000000) :
    Calls Tryz.prog 89 #[.pointer (some ⟨cb, 0, none⟩)] w fun e w' => e = .returned (.tuple #[]) ∧ Cu w' cb S (p + skipN false ((bys S).drop p)) ∧ FrS w.heap.size (fun k => k = cb) w w' := by
  have HC := Lib.hid h
  clear h
  go_enter Tryz.func89, Tryz.ntmps89
  go_wp2_with fail
  go_loopw [2, 3, 30, 34, 37] (fun v2 _ _ _ _ wq => True ∧ ∃ (q : Nat) (nt : Bool), v2 = .bool nt ∧ q ≤ S.size ∧ Cu wq cb S q ∧ q + skipN nt ((bys S).drop q) = p + skipN false ((bys S).drop p) ∧ FrS w.heap.size (fun k => k = cb) w wq) (fun _ _ _ _ _ wq => S.size - (intOf ((wq.cell? ⟨cb, 1, none⟩).getD .nilIface)).toNat)
  case atStart => exact ⟨trivial, p, false, rfl, hp, HC.out, rfl, FrS.refl _ _ _⟩
  case round =>
    obtain ⟨-, q, nt, rfl, hq, hcu, hsk, hfr⟩ := hrel
    have HCu := Lib.hid hcu
    have HFr := Lib.hid hfr
    have HSk := Lib.hid hsk
    obtain ⟨c0, c1, cf, cl⟩ := hcu.cells
    clear hcu hfr hsk
    by_cases hlt : q < S.size
    · have hlt' : (q : Int) < (S.size : Int) := by omega
      have hd : decide ((q : Int) < (S.size : Int)) = true := decide_eq_true hlt'
      have HDr := Lib.hid (drop_byte S q hlt)
      have HW := Lib.hid fun W => white_any (S[q]'hlt) W
      have HX := Lib.hid (bt_ne (S[q]'hlt))
      have HPut : Hid (∀ k, Cu ((wr.drewN k).setCell ⟨cb, 1, none⟩ (.int .i64 ((q : Int) + 1))) cb S (q + 1) ∧ FrS w.heap.size (fun k => k = cb) w ((wr.drewN k).setCell ⟨cb, 1, none⟩ (.int .i64 ((q : Int) + 1)))) := fun k =>
        ⟨Cu.put (w := wr.drewN k) HCu.out (q + 1), (HFr.out.drewN k).put (.inr rfl) _⟩
      have HMe : Hid (∀ k, S.size - (intOf ((((wr.drewN k).setCell ⟨cb, 1, none⟩ (.int .i64 ((q : Int) + 1))).cell? ⟨cb, 1, none⟩).getD .nilIface)).toNat < S.size - (intOf ((wr.cell? ⟨cb, 1, none⟩).getD .nilIface)).toNat) := fun k => by
        have h1 := (HPut.out k).1.cells.2.1
        rw [h1, c1]
        simp [intOf]; omega
      cases nt
      · by_cases hx : S[q]'hlt = 37
        · have hb : (((S[q]'hlt).toNat : Int) == 37) = true := by rw [hx]; rfl
          go_wp2_with fail
          go_quiet (fail)
          go_wp2_with fail
          go_quiet (fail)
          go_wp2_with fail
          refine ⟨⟨trivial, q + 1, true, rfl, by omega, (HPut.out _).1, ?_, (HPut.out _).2⟩, HMe.out _⟩
          rw [← HSk.out, HDr.out]
          show q + 1 + skipN true _ = q + skipN false (_ :: _)
          simp only [skipN]
          rw [if_pos (by simpa using hx)]; omega
        · have hb : (((S[q]'hlt).toNat : Int) == 37) = false := by
            have := HX.out 37 hx
            simpa [bt] using this
          cases hw : white (S[q]'hlt)
          · rw [hw] at HW
            go_wp2_with fail
            go_quiet (fail)
            go_wp2_with fail
            go_quiet (fail)
            go_wp2_with fail
            refine (HW.out _).mono ?_
            rintro e w1 ⟨rfl, rfl⟩
            go_wp2_with fail
            refine bodyPost_ret (v := .tuple #[]) (by simp [results, Tryz.results89, go_sem]) rfl ?_
            refine ⟨rfl, ?_, ?_⟩
            · have h0 : skipN false ((bys S).drop q) = 0 := by rw [HDr.out]; exact skip_zero hw hx
              have := HSk.out
              rw [h0, Nat.add_zero] at this
              rw [← this]; exact HCu.out
            · exact HFr.out.drewN _
          · rw [hw] at HW
            go_wp2_with fail
            go_quiet (fail)
            go_wp2_with fail
            go_quiet (fail)
            go_wp2_with fail
            refine (HW.out _).mono ?_
            rintro e w1 ⟨rfl, rfl⟩
            go_wp2_with fail
            refine ⟨⟨trivial, q + 1, false, rfl, by omega, (HPut.out _).1, ?_, (HPut.out _).2⟩, HMe.out _⟩
            rw [← HSk.out, HDr.out]
            show q + 1 + skipN false _ = q + skipN false (_ :: _)
            rw [show skipN false ((S[q]'hlt) :: (bys S).drop (q + 1)) = 1 + skipN false ((bys S).drop (q + 1)) by
              rw [skipN, if_neg (by simpa using hx), if_pos hw]]
            omega
      · go_wp2_with fail
        go_quiet (fail)
        go_wp2_with fail
        go_quiet (fail)
        go_wp2_with fail
        refine ⟨⟨trivial, q + 1, _, rfl, by omega, (HPut.out _).1, ?_, (HPut.out _).2⟩, HMe.out _⟩
        rw [← HSk.out, HDr.out]
        show q + 1 + skipN _ _ = q + skipN true (_ :: _)
        simp only [skipN]
        rw [show (((S[q]'hlt).toNat : Int) != 10) = ((S[q]'hlt) != 10) from bt_bne (S[q]'hlt) 10]
        omega
    · have hlt' : ¬ (q : Int) < (S.size : Int) := by omega
      have hd : decide ((q : Int) < (S.size : Int)) = false := decide_eq_false hlt'
      go_wp2_with fail
      go_quiet (fail)
      go_wp2_with fail
      go_end0
      refine ⟨rfl, ?_, HFr.out.drewN _⟩
      have h0 : skipN nt ((bys S).drop q) = 0 := by
        rw [List.drop_eq_nil_of_le (by rw [bys_len]; omega)]
        cases nt <;> rfl
      have := HSk.out
      rw [h0, Nat.add_zero] at this
      rw [← this]; exact HCu.out
end Go.Proofs.YthbdhijkdldmoaaGreatDoor
