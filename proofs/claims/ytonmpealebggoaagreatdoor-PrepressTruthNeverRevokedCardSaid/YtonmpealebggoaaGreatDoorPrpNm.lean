/- The walk of plain: whether a string is a name. -/
import Derived.Test.YtonmpealebggoaaGreatDoorLaid
import Derived.Test.YtonmpealebggoaaGreatDoorPrpMem
import Derived.Deep.DeepMust
namespace Go.Proofs.YtonmpealebggoaaGreatDoor
open Go.RowKit Pr
/-- Whether byte x may stand at place i of a name. -/
def okAt (i : Nat) (x : UInt8) : Bool := if i = 0 then lowB x else nmB x
def okTo (l : Src) (n : Nat) : Bool := (List.range n).all fun i => okAt i (l.getD i 0)
theorem okTo_step {l : Src} {i : Nat} (h : okTo l i = true) (_hi : i < l.length) (hx : okAt i (l.getD i 0) = true) : okTo l (i + 1) = true := by
  unfold okTo at h ⊢
  rw [List.range_succ, List.all_append, h, Bool.true_and]
  simpa [List.getD_eq_getElem?_getD] using hx
theorem okTo_at {l : Src} {n i : Nat} (h : okTo l n = true) (hi : i < n) : okAt i (l.getD i 0) = true := List.all_eq_true.1 h i (List.mem_range.2 hi)
theorem okTo_plain {l : Src} (h : okTo l l.length = true) : l = [] ∨ ∃ c r, l = c :: r ∧ lowB c = true ∧ r.all nmB = true := by
  cases l with
  | nil => exact .inl rfl
  | cons c r =>
    refine .inr ⟨c, r, rfl, ?_, ?_⟩
    · have := okTo_at h (i := 0) (by simp)
      simpa [okAt] using this
    · rw [List.all_eq_true]
      intro x hx
      obtain ⟨j, hj, rfl⟩ := List.getElem_of_mem hx
      have := okTo_at h (i := j + 1) (by simpa using hj)
      simpa [okAt, List.getD_eq_getElem?_getD, List.getElem?_eq_getElem hj] using this
theorem plain_bad {l : Src} {i : Nat} (hi : i < l.length) (h : okAt i (l.getD i 0) = false) : plainB l = false := by
  cases l with
  | nil => simp at hi
  | cons c r =>
    cases i with
    | zero =>
      have h : lowB c = false := by simpa [okAt] using h
      simp [plainB, h]
    | succ j =>
      have hj : j < r.length := by simpa using hi
      have h : nmB r[j] = false := by simpa [okAt, List.getD_eq_getElem?_getD, List.getElem?_eq_getElem hj] using h
      have : r.all nmB = false := by rw [List.all_eq_false]; exact ⟨r[j], List.getElem_mem hj, by simp [h]⟩
      simp [plainB, this]
/-- The words of the language. -/
def words4 : List ByteArray := [⟨#[114, 117, 108, 101]⟩, ⟨#[110, 111, 116]⟩, ⟨#[97, 110, 100]⟩, ⟨#[111, 114]⟩]
theorem bytes_eq {a b : ByteArray} : a = b ↔ a.data.toList = b.data.toList := by
  constructor
  · rintro rfl; rfl
  · intro h; cases a; cases b; simp at h; simp [h]
theorem words4_has (s : ByteArray) : Lib.containsS words4 s = (s.data.toList == wRule || s.data.toList == wNot || s.data.toList == wAnd || s.data.toList == wOr) := by
  rw [Bool.eq_iff_iff]
  simp only [Bool.or_eq_true, beq_iff_eq]
  rw [Lib.containsS_iff]
  simp only [words4, List.mem_cons, List.not_mem_nil, or_false, bytes_eq]
  constructor
  · rintro (h | h | h | h)
    · exact .inl (.inl (.inl h))
    · exact .inl (.inl (.inr h))
    · exact .inl (.inr h)
    · exact .inr h
  · rintro (((h | h) | h) | h)
    · exact .inl h
    · exact .inr (.inl h)
    · exact .inr (.inr (.inl h))
    · exact .inr (.inr (.inr h))
theorem has_words (s : ByteArray) (w : World) :
    Calls Tryz.prog 46 #[Value.slice (some { block := w.heap.size, off := 0 }) 4 4, Value.string s]
      (w.alloc (Obj.cells #[Value.string { data := #[114, 117, 108, 101] }, Value.string { data := #[110, 111, 116] }, Value.string { data := #[97, 110, 100] }, Value.string { data := #[111, 114] }] 9))
      fun e w' => e = .returned (.bool (Lib.containsS words4 s)) ∧ w' = (w.alloc (Obj.cells #[Value.string { data := #[114, 117, 108, 101] }, Value.string { data := #[110, 111, 116] }, Value.string { data := #[97, 110, 100] }, Value.string { data := #[111, 114] }] 9)) := by
  refine slices_Contains_string _ 0 4 4 words4 s _ (by decide) (by decide) fun j hj => ?_
  have hj : j < 4 := hj
  rw [World.cell?_alloc_at _ _ _ _ rfl, Nat.zero_add]
  match j, hj with
  | 0, _ => rfl
  | 1, _ => rfl
  | 2, _ => rfl
  | 3, _ => rfl
theorem plain_end {l : Src} (h : okTo l l.length = true) : plainB l = (!l.isEmpty && decide (l.length ≤ 16) && !(l == wRule || l == wNot || l == wAnd || l == wOr)) := by
  rcases okTo_plain h with rfl | ⟨c, r, rfl, h1, h2⟩
  · rfl
  · simp [plainB, h1, h2]
set_option maxRecDepth 100000 in
set_option maxHeartbeats 4000000 in
theorem plain_any (s : ByteArray) (w : World) (hs : s.size ≤ 9223372036854775807) :
    Calls Tryz.prog 29 #[.string s] w fun e w' => e = .returned (.bool (plainB s.data.toList)) ∧ Below w.heap.size w w' := by
  have hlen : s.data.toList.length = s.size := by simp
  have HL := Lib.hid hlen
  have HBy : Hid (∀ j (h : j < s.size), s.data.toList.getD j 0 = s[j]'h) := fun j h => by
    have h2 : j < s.data.toList.length := by omega
    rw [List.getD_eq_getElem?_getD, List.getElem?_eq_getElem h2]; rfl
  have HWd := Lib.hid (words4_has s)
  have hem : s.toList = s.data.toList := Lib.toList_data s
  have HEm := Lib.hid hem
  clear hlen hem
  generalize s.data.toList = L at *
  go_enter Tryz.func29, Tryz.ntmps29
  go_wp2_with fail
  go_loopw [3, 4, 7] (fun _ _ v7 wr => ∃ i : Nat, i ≤ s.size ∧ v7 = .int .i64 i ∧ okTo L i = true ∧ Below w.heap.size w wr) (fun _ _ v7 _ => s.size - (intOf v7).toNat)
  case atStart => exact ⟨0, Nat.zero_le _, rfl, rfl, Below.refl _ _⟩
  case round =>
    obtain ⟨i, hi, rfl, ho, hb⟩ := hrel
    have HO := Lib.hid ho
    have HB := Lib.hid hb
    clear ho hb
    by_cases hlt : i < s.size
    · have t0 : decide ((i : Int) < (s.size : Int)) = true := by simp; omega
      have HX := Lib.hid (HBy.out i hlt)
      generalize hx : s[i]'hlt = x at *
      have hx8 := x.toNat_lt
      by_cases c1 : 97 ≤ x.toNat
      · have t1 : decide ((97 : Int) ≤ (x.toNat : Int)) = true := by simp; omega
        by_cases c2 : x.toNat ≤ 122
        · have t2 : decide ((x.toNat : Int) ≤ 122) = true := by simp; omega
          have HOk : Hid (okTo L (i + 1) = true) := okTo_step HO.out (by rw [HL.out]; exact hlt) (by rw [HX.out]; unfold okAt; split <;> simp [lowB, nmB] <;> omega)
          go_wp2_with fail
          go_roundw
          case rel => exact ⟨i + 1, by omega, by go_num, HOk.out, HB.out⟩
          case measure => simp [intOf]; omega
        · have t2 : decide ((x.toNat : Int) ≤ 122) = false := by simp; omega
          by_cases i0 : i = 0
          · have t4 : ((i : Int) == 0) = true := by rw [beq_iff_eq]; omega
            have HF : Hid (plainB L = false) := plain_bad (i := i) (by rw [HL.out]; exact hlt) (by rw [HX.out]; unfold okAt; rw [if_pos i0]; simp [lowB]; omega)
            clear i0
            go_wp2_with fail
            go_ret
            exact ⟨by rw [HF.out]; rfl, HB.out⟩
          · have t4 : ((i : Int) == 0) = false := by rw [beq_eq_false_iff_ne]; omega
            by_cases c3 : 48 ≤ x.toNat
            · have t5 : decide ((48 : Int) ≤ (x.toNat : Int)) = true := by simp; omega
              by_cases c4 : x.toNat ≤ 57
              · have t6 : decide ((x.toNat : Int) ≤ 57) = true := by simp; omega
                have HOk : Hid (okTo L (i + 1) = true) := okTo_step HO.out (by rw [HL.out]; exact hlt) (by rw [HX.out]; unfold okAt; rw [if_neg i0]; simp [lowB, digB, nmB]; omega)
                go_wp2_with fail
                go_roundw
                case rel => exact ⟨i + 1, by omega, by go_num, HOk.out, HB.out⟩
                case measure => simp [intOf]; omega
              · have t6 : decide ((x.toNat : Int) ≤ 57) = false := by simp; omega
                by_cases d1 : x.toNat = 45
                · have t7 : ((x.toNat : Int) != 45) = false := by simp; omega
                  have HOk : Hid (okTo L (i + 1) = true) := okTo_step HO.out (by rw [HL.out]; exact hlt) (by rw [HX.out]; unfold okAt; rw [if_neg i0]; simp [lowB, digB, nmB, UInt8.toNat_inj.1 (show x.toNat = (45 : UInt8).toNat from d1)])
                  go_wp2_with fail
                  go_roundw
                  case rel => exact ⟨i + 1, by omega, by go_num, HOk.out, HB.out⟩
                  case measure => simp [intOf]; omega
                · have t7 : ((x.toNat : Int) != 45) = true := by simp; omega
                  have HF : Hid (plainB L = false) := plain_bad (i := i) (by rw [HL.out]; exact hlt) (by rw [HX.out]; unfold okAt; rw [if_neg i0]; have hx : x ≠ 45 := fun e => d1 (by rw [e]; rfl); simp [lowB, digB, nmB, hx]; omega)
                  go_wp2_with fail
                  go_ret
                  exact ⟨by rw [HF.out]; rfl, HB.out⟩
            · have t5 : decide ((48 : Int) ≤ (x.toNat : Int)) = false := by simp; omega
              by_cases d1 : x.toNat = 45
              · have t7 : ((x.toNat : Int) != 45) = false := by simp; omega
                have HOk : Hid (okTo L (i + 1) = true) := okTo_step HO.out (by rw [HL.out]; exact hlt) (by rw [HX.out]; unfold okAt; rw [if_neg i0]; simp [lowB, digB, nmB, UInt8.toNat_inj.1 (show x.toNat = (45 : UInt8).toNat from d1)])
                go_wp2_with fail
                go_roundw
                case rel => exact ⟨i + 1, by omega, by go_num, HOk.out, HB.out⟩
                case measure => simp [intOf]; omega
              · have t7 : ((x.toNat : Int) != 45) = true := by simp; omega
                have HF : Hid (plainB L = false) := plain_bad (i := i) (by rw [HL.out]; exact hlt) (by rw [HX.out]; unfold okAt; rw [if_neg i0]; have hx : x ≠ 45 := fun e => d1 (by rw [e]; rfl); simp [lowB, digB, nmB, hx]; omega)
                go_wp2_with fail
                go_ret
                exact ⟨by rw [HF.out]; rfl, HB.out⟩
      · have t1 : decide ((97 : Int) ≤ (x.toNat : Int)) = false := by simp; omega
        by_cases i0 : i = 0
        · have t4 : ((i : Int) == 0) = true := by rw [beq_iff_eq]; omega
          have HF : Hid (plainB L = false) := plain_bad (i := i) (by rw [HL.out]; exact hlt) (by rw [HX.out]; unfold okAt; rw [if_pos i0]; simp [lowB]; omega)
          clear i0
          go_wp2_with fail
          go_ret
          exact ⟨by rw [HF.out]; rfl, HB.out⟩
        · have t4 : ((i : Int) == 0) = false := by rw [beq_eq_false_iff_ne]; omega
          by_cases c3 : 48 ≤ x.toNat
          · have t5 : decide ((48 : Int) ≤ (x.toNat : Int)) = true := by simp; omega
            by_cases c4 : x.toNat ≤ 57
            · have t6 : decide ((x.toNat : Int) ≤ 57) = true := by simp; omega
              have HOk : Hid (okTo L (i + 1) = true) := okTo_step HO.out (by rw [HL.out]; exact hlt) (by rw [HX.out]; unfold okAt; rw [if_neg i0]; simp [lowB, digB, nmB]; omega)
              go_wp2_with fail
              go_roundw
              case rel => exact ⟨i + 1, by omega, by go_num, HOk.out, HB.out⟩
              case measure => simp [intOf]; omega
            · have t6 : decide ((x.toNat : Int) ≤ 57) = false := by simp; omega
              by_cases d1 : x.toNat = 45
              · have t7 : ((x.toNat : Int) != 45) = false := by simp; omega
                have HOk : Hid (okTo L (i + 1) = true) := okTo_step HO.out (by rw [HL.out]; exact hlt) (by rw [HX.out]; unfold okAt; rw [if_neg i0]; simp [lowB, digB, nmB, UInt8.toNat_inj.1 (show x.toNat = (45 : UInt8).toNat from d1)])
                go_wp2_with fail
                go_roundw
                case rel => exact ⟨i + 1, by omega, by go_num, HOk.out, HB.out⟩
                case measure => simp [intOf]; omega
              · have t7 : ((x.toNat : Int) != 45) = true := by simp; omega
                have HF : Hid (plainB L = false) := plain_bad (i := i) (by rw [HL.out]; exact hlt) (by rw [HX.out]; unfold okAt; rw [if_neg i0]; have hx : x ≠ 45 := fun e => d1 (by rw [e]; rfl); simp [lowB, digB, nmB, hx]; omega)
                go_wp2_with fail
                go_ret
                exact ⟨by rw [HF.out]; rfl, HB.out⟩
          · have t5 : decide ((48 : Int) ≤ (x.toNat : Int)) = false := by simp; omega
            by_cases d1 : x.toNat = 45
            · have t7 : ((x.toNat : Int) != 45) = false := by simp; omega
              have HOk : Hid (okTo L (i + 1) = true) := okTo_step HO.out (by rw [HL.out]; exact hlt) (by rw [HX.out]; unfold okAt; rw [if_neg i0]; simp [lowB, digB, nmB, UInt8.toNat_inj.1 (show x.toNat = (45 : UInt8).toNat from d1)])
              go_wp2_with fail
              go_roundw
              case rel => exact ⟨i + 1, by omega, by go_num, HOk.out, HB.out⟩
              case measure => simp [intOf]; omega
            · have t7 : ((x.toNat : Int) != 45) = true := by simp; omega
              have HF : Hid (plainB L = false) := plain_bad (i := i) (by rw [HL.out]; exact hlt) (by rw [HX.out]; unfold okAt; rw [if_neg i0]; have hx : x ≠ 45 := fun e => d1 (by rw [e]; rfl); simp [lowB, digB, nmB, hx]; omega)
              go_wp2_with fail
              go_ret
              exact ⟨by rw [HF.out]; rfl, HB.out⟩
    · have t0 : decide ((i : Int) < (s.size : Int)) = false := by simp; omega
      have his : i = s.size := by omega
      subst his
      rw [← HL.out] at HO
      have HP := Lib.hid (plain_end HO.out)
      by_cases he : s.toList = []
      · have u0 : (!s.toList.isEmpty) = false := by simp [he]
        have hl : L = [] := by rw [← HEm.out]; exact he
        have HR : Hid (plainB L = false) := by rw [HP.out, hl]; rfl
        clear he hl
        go_wp2_with fail
        go_ret
        exact ⟨by rw [HR.out]; rfl, HB.out⟩
      have u0 : (!s.toList.isEmpty) = true := by simp [he]
      have HN := Lib.hid (show L.isEmpty = false by rw [← HEm.out]; simp [he])
      clear he
      by_cases h16 : s.size ≤ 16
      rotate_left
      · have u1 : decide ((s.size : Int) ≤ 16) = false := by simp; omega
        have HR := Lib.hid (show plainB L = false by rw [HP.out, HL.out]; simp [h16])
        clear h16
        go_wp2_with fail
        go_ret
        exact ⟨by rw [HR.out]; rfl, HB.out⟩
      have u1 : decide ((s.size : Int) ≤ 16) = true := by simp; omega
      have HR := Lib.hid (show plainB L = !Lib.containsS words4 s by rw [HP.out, HL.out, HN.out, HWd.out]; simp [h16])
      have HCt := Lib.hid (has_words s wr)
      clear h16
      go_wp2_with fail
      ((with_reducible refine HCt.out.mono ?_); rintro e w2 ⟨rfl, rfl⟩)
      go_wp2_with fail
      go_ret
      exact ⟨by rw [HR.out]; rfl, HB.out.trans (((Below.refl _ _).alloc (Nat.le_refl _) _).mono HB.out.size)⟩
end Go.Proofs.YtonmpealebggoaaGreatDoor
