/- The walk of class: what bytes a word consists of. -/
import Derived.Test.YtonmpealebggoaaGreatDoorPrpChk
import Derived.Test.YtonmpealebggoaaGreatDoorPrpPlain
namespace Go.Proofs.YtonmpealebggoaaGreatDoor
open Go.RowKit Pr
theorem cls_nat (x : UInt8) : cls x = if (97 ≤ x.toNat ∧ x.toNat ≤ 122) ∨ (48 ≤ x.toNat ∧ x.toNat ≤ 57) then 1 else if x.toNat = 60 ∨ x.toNat = 62 ∨ x.toNat = 61 ∨ x.toNat = 33 then 2 else 0 := by
  have e (k : UInt8) : (x = k) ↔ (x.toNat = k.toNat) := ⟨fun h => by rw [h], fun h => UInt8.toNat_inj.1 h⟩
  unfold cls lowB digB
  by_cases h1 : (97 ≤ x.toNat ∧ x.toNat ≤ 122) ∨ (48 ≤ x.toNat ∧ x.toNat ≤ 57)
  · rw [if_pos h1, if_pos (by simpa using h1)]
  · rw [if_neg h1, if_neg (by simpa using h1)]
    by_cases h2 : x.toNat = 60 ∨ x.toNat = 62 ∨ x.toNat = 61 ∨ x.toNat = 33
    · rw [if_pos h2, if_pos]
      rcases h2 with h | h | h | h
      · exact .inl ((e 60).2 h)
      · exact .inr (.inl ((e 62).2 h))
      · exact .inr (.inr (.inl ((e 61).2 h)))
      · exact .inr (.inr (.inr ((e 33).2 h)))
    · rw [if_neg h2, if_neg]
      rintro (h | h | h | h)
      · exact h2 (.inl ((e 60).1 h))
      · exact h2 (.inr (.inl ((e 62).1 h)))
      · exact h2 (.inr (.inr (.inl ((e 61).1 h))))
      · exact h2 (.inr (.inr (.inr ((e 33).1 h))))
set_option maxRecDepth 100000 in
set_option maxHeartbeats 4000000 in
theorem class_any (x : UInt8) (w : World) : Calls Tryz.prog 44 #[.int .u8 (x.toNat : Int)] w fun e w' => e = .returned (.int .i64 (cls x : Nat)) ∧ w' = w := by
  have hx8 := x.toNat_lt
  by_cases c1 : 97 ≤ x.toNat
  · have t1 : decide ((97 : Int) ≤ (x.toNat : Int)) = true := by simp; omega
    by_cases c2 : x.toNat ≤ 122
    · have t2 : decide ((x.toNat : Int) ≤ 122) = true := by simp; omega
      have HV := Lib.hid (show cls x = 1 by rw [cls_nat]; (repeat' split) <;> omega)
      go_enter Tryz.func44, Tryz.ntmps44
      go_wp2_with fail
      go_ret
      exact ⟨by rw [HV.out]; rfl, rfl⟩
    · have t2 : decide ((x.toNat : Int) ≤ 122) = false := by simp; omega
      by_cases c3 : 48 ≤ x.toNat
      · have t3 : decide ((48 : Int) ≤ (x.toNat : Int)) = true := by simp; omega
        by_cases c4 : x.toNat ≤ 57
        · have t4 : decide ((x.toNat : Int) ≤ 57) = true := by simp; omega
          have HV := Lib.hid (show cls x = 1 by rw [cls_nat]; (repeat' split) <;> omega)
          go_enter Tryz.func44, Tryz.ntmps44
          go_wp2_with fail
          go_ret
          exact ⟨by rw [HV.out]; rfl, rfl⟩
        · have t4 : decide ((x.toNat : Int) ≤ 57) = false := by simp; omega
          by_cases e60 : x.toNat = 60
          · have f60 : ((x.toNat : Int) == 60) = true := by rw [beq_iff_eq]; omega
            have HV := Lib.hid (show cls x = 2 by rw [cls_nat]; (repeat' split) <;> omega)
            go_enter Tryz.func44, Tryz.ntmps44
            go_wp2_with fail
            go_ret
            exact ⟨by rw [HV.out]; rfl, rfl⟩
          · have f60 : ((x.toNat : Int) == 60) = false := by rw [beq_eq_false_iff_ne]; omega
            by_cases e62 : x.toNat = 62
            · have f62 : ((x.toNat : Int) == 62) = true := by rw [beq_iff_eq]; omega
              have HV := Lib.hid (show cls x = 2 by rw [cls_nat]; (repeat' split) <;> omega)
              go_enter Tryz.func44, Tryz.ntmps44
              go_wp2_with fail
              go_ret
              exact ⟨by rw [HV.out]; rfl, rfl⟩
            · have f62 : ((x.toNat : Int) == 62) = false := by rw [beq_eq_false_iff_ne]; omega
              by_cases e61 : x.toNat = 61
              · have f61 : ((x.toNat : Int) == 61) = true := by rw [beq_iff_eq]; omega
                have HV := Lib.hid (show cls x = 2 by rw [cls_nat]; (repeat' split) <;> omega)
                go_enter Tryz.func44, Tryz.ntmps44
                go_wp2_with fail
                go_ret
                exact ⟨by rw [HV.out]; rfl, rfl⟩
              · have f61 : ((x.toNat : Int) == 61) = false := by rw [beq_eq_false_iff_ne]; omega
                by_cases e33 : x.toNat = 33
                · have f33 : ((x.toNat : Int) == 33) = true := by rw [beq_iff_eq]; omega
                  have HV := Lib.hid (show cls x = 2 by rw [cls_nat]; (repeat' split) <;> omega)
                  go_enter Tryz.func44, Tryz.ntmps44
                  go_wp2_with fail
                  go_ret
                  exact ⟨by rw [HV.out]; rfl, rfl⟩
                · have f33 : ((x.toNat : Int) == 33) = false := by rw [beq_eq_false_iff_ne]; omega
                  have HV := Lib.hid (show cls x = 0 by rw [cls_nat]; (repeat' split) <;> omega)
                  go_enter Tryz.func44, Tryz.ntmps44
                  go_wp2_with fail
                  go_ret
                  exact ⟨by rw [HV.out]; rfl, rfl⟩
      · have t3 : decide ((48 : Int) ≤ (x.toNat : Int)) = false := by simp; omega
        by_cases e60 : x.toNat = 60
        · have f60 : ((x.toNat : Int) == 60) = true := by rw [beq_iff_eq]; omega
          have HV := Lib.hid (show cls x = 2 by rw [cls_nat]; (repeat' split) <;> omega)
          go_enter Tryz.func44, Tryz.ntmps44
          go_wp2_with fail
          go_ret
          exact ⟨by rw [HV.out]; rfl, rfl⟩
        · have f60 : ((x.toNat : Int) == 60) = false := by rw [beq_eq_false_iff_ne]; omega
          by_cases e62 : x.toNat = 62
          · have f62 : ((x.toNat : Int) == 62) = true := by rw [beq_iff_eq]; omega
            have HV := Lib.hid (show cls x = 2 by rw [cls_nat]; (repeat' split) <;> omega)
            go_enter Tryz.func44, Tryz.ntmps44
            go_wp2_with fail
            go_ret
            exact ⟨by rw [HV.out]; rfl, rfl⟩
          · have f62 : ((x.toNat : Int) == 62) = false := by rw [beq_eq_false_iff_ne]; omega
            by_cases e61 : x.toNat = 61
            · have f61 : ((x.toNat : Int) == 61) = true := by rw [beq_iff_eq]; omega
              have HV := Lib.hid (show cls x = 2 by rw [cls_nat]; (repeat' split) <;> omega)
              go_enter Tryz.func44, Tryz.ntmps44
              go_wp2_with fail
              go_ret
              exact ⟨by rw [HV.out]; rfl, rfl⟩
            · have f61 : ((x.toNat : Int) == 61) = false := by rw [beq_eq_false_iff_ne]; omega
              by_cases e33 : x.toNat = 33
              · have f33 : ((x.toNat : Int) == 33) = true := by rw [beq_iff_eq]; omega
                have HV := Lib.hid (show cls x = 2 by rw [cls_nat]; (repeat' split) <;> omega)
                go_enter Tryz.func44, Tryz.ntmps44
                go_wp2_with fail
                go_ret
                exact ⟨by rw [HV.out]; rfl, rfl⟩
              · have f33 : ((x.toNat : Int) == 33) = false := by rw [beq_eq_false_iff_ne]; omega
                have HV := Lib.hid (show cls x = 0 by rw [cls_nat]; (repeat' split) <;> omega)
                go_enter Tryz.func44, Tryz.ntmps44
                go_wp2_with fail
                go_ret
                exact ⟨by rw [HV.out]; rfl, rfl⟩
  · have t1 : decide ((97 : Int) ≤ (x.toNat : Int)) = false := by simp; omega
    by_cases c3 : 48 ≤ x.toNat
    · have t3 : decide ((48 : Int) ≤ (x.toNat : Int)) = true := by simp; omega
      by_cases c4 : x.toNat ≤ 57
      · have t4 : decide ((x.toNat : Int) ≤ 57) = true := by simp; omega
        have HV := Lib.hid (show cls x = 1 by rw [cls_nat]; (repeat' split) <;> omega)
        go_enter Tryz.func44, Tryz.ntmps44
        go_wp2_with fail
        go_ret
        exact ⟨by rw [HV.out]; rfl, rfl⟩
      · have t4 : decide ((x.toNat : Int) ≤ 57) = false := by simp; omega
        by_cases e60 : x.toNat = 60
        · have f60 : ((x.toNat : Int) == 60) = true := by rw [beq_iff_eq]; omega
          have HV := Lib.hid (show cls x = 2 by rw [cls_nat]; (repeat' split) <;> omega)
          go_enter Tryz.func44, Tryz.ntmps44
          go_wp2_with fail
          go_ret
          exact ⟨by rw [HV.out]; rfl, rfl⟩
        · have f60 : ((x.toNat : Int) == 60) = false := by rw [beq_eq_false_iff_ne]; omega
          by_cases e62 : x.toNat = 62
          · have f62 : ((x.toNat : Int) == 62) = true := by rw [beq_iff_eq]; omega
            have HV := Lib.hid (show cls x = 2 by rw [cls_nat]; (repeat' split) <;> omega)
            go_enter Tryz.func44, Tryz.ntmps44
            go_wp2_with fail
            go_ret
            exact ⟨by rw [HV.out]; rfl, rfl⟩
          · have f62 : ((x.toNat : Int) == 62) = false := by rw [beq_eq_false_iff_ne]; omega
            by_cases e61 : x.toNat = 61
            · have f61 : ((x.toNat : Int) == 61) = true := by rw [beq_iff_eq]; omega
              have HV := Lib.hid (show cls x = 2 by rw [cls_nat]; (repeat' split) <;> omega)
              go_enter Tryz.func44, Tryz.ntmps44
              go_wp2_with fail
              go_ret
              exact ⟨by rw [HV.out]; rfl, rfl⟩
            · have f61 : ((x.toNat : Int) == 61) = false := by rw [beq_eq_false_iff_ne]; omega
              by_cases e33 : x.toNat = 33
              · have f33 : ((x.toNat : Int) == 33) = true := by rw [beq_iff_eq]; omega
                have HV := Lib.hid (show cls x = 2 by rw [cls_nat]; (repeat' split) <;> omega)
                go_enter Tryz.func44, Tryz.ntmps44
                go_wp2_with fail
                go_ret
                exact ⟨by rw [HV.out]; rfl, rfl⟩
              · have f33 : ((x.toNat : Int) == 33) = false := by rw [beq_eq_false_iff_ne]; omega
                have HV := Lib.hid (show cls x = 0 by rw [cls_nat]; (repeat' split) <;> omega)
                go_enter Tryz.func44, Tryz.ntmps44
                go_wp2_with fail
                go_ret
                exact ⟨by rw [HV.out]; rfl, rfl⟩
    · have t3 : decide ((48 : Int) ≤ (x.toNat : Int)) = false := by simp; omega
      by_cases e60 : x.toNat = 60
      · have f60 : ((x.toNat : Int) == 60) = true := by rw [beq_iff_eq]; omega
        have HV := Lib.hid (show cls x = 2 by rw [cls_nat]; (repeat' split) <;> omega)
        go_enter Tryz.func44, Tryz.ntmps44
        go_wp2_with fail
        go_ret
        exact ⟨by rw [HV.out]; rfl, rfl⟩
      · have f60 : ((x.toNat : Int) == 60) = false := by rw [beq_eq_false_iff_ne]; omega
        by_cases e62 : x.toNat = 62
        · have f62 : ((x.toNat : Int) == 62) = true := by rw [beq_iff_eq]; omega
          have HV := Lib.hid (show cls x = 2 by rw [cls_nat]; (repeat' split) <;> omega)
          go_enter Tryz.func44, Tryz.ntmps44
          go_wp2_with fail
          go_ret
          exact ⟨by rw [HV.out]; rfl, rfl⟩
        · have f62 : ((x.toNat : Int) == 62) = false := by rw [beq_eq_false_iff_ne]; omega
          by_cases e61 : x.toNat = 61
          · have f61 : ((x.toNat : Int) == 61) = true := by rw [beq_iff_eq]; omega
            have HV := Lib.hid (show cls x = 2 by rw [cls_nat]; (repeat' split) <;> omega)
            go_enter Tryz.func44, Tryz.ntmps44
            go_wp2_with fail
            go_ret
            exact ⟨by rw [HV.out]; rfl, rfl⟩
          · have f61 : ((x.toNat : Int) == 61) = false := by rw [beq_eq_false_iff_ne]; omega
            by_cases e33 : x.toNat = 33
            · have f33 : ((x.toNat : Int) == 33) = true := by rw [beq_iff_eq]; omega
              have HV := Lib.hid (show cls x = 2 by rw [cls_nat]; (repeat' split) <;> omega)
              go_enter Tryz.func44, Tryz.ntmps44
              go_wp2_with fail
              go_ret
              exact ⟨by rw [HV.out]; rfl, rfl⟩
            · have f33 : ((x.toNat : Int) == 33) = false := by rw [beq_eq_false_iff_ne]; omega
              have HV := Lib.hid (show cls x = 0 by rw [cls_nat]; (repeat' split) <;> omega)
              go_enter Tryz.func44, Tryz.ntmps44
              go_wp2_with fail
              go_ret
              exact ⟨by rw [HV.out]; rfl, rfl⟩
end Go.Proofs.YtonmpealebggoaaGreatDoor
