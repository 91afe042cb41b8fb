/- Split, digit, IndexByte at this seat; steps read one by one. -/
import Derived.Test.YtjmanooedgfbaaaDoorFtPlain
import Derived.Test.YtjmanooedgfbaaaDoorLaid
import Derived.BigQuiet
import Derived.BigRegion
import Derived.RegionTactic
import Derived.Deep.QuietTactic
import Derived.Deep.DeepCutAuto
import Derived.Deep.CutBlock
namespace Go.Proofs.YtjmanooedgfbaaaDoor
open Go.RowKit
def dv (c : UInt8) : Int := ((c.toNat : Int) - 48) % 256
theorem dv_dig {c : UInt8} (h : digV c = true) : dv c = (digN c : Int) := by
  unfold digV at h
  simp only [Bool.and_eq_true, decide_eq_true_eq] at h
  unfold dv digN
  omega
theorem digit_any (c : UInt8) (w : World) : Calls Tryd.prog 16 #[.int .u8 (c.toNat : Int)] w fun e w' => e = .returned (.tuple #[.int .i64 (dv c), .bool (digV c)]) ∧ w = w' := by
  have hc : c.toNat < 256 := c.toNat_lt
  have hd : (dv c : Int) = ((c.toNat : Int) - 48) % 256 := rfl
  have hb : digV c = (decide (49 ≤ c.toNat) && decide (c.toNat ≤ 57)) := rfl
  generalize dv c = d at *
  generalize digV c = b at *
  generalize c.toNat = n at *
  by_cases h1 : 49 ≤ n
  · have g1 : decide ((49 : Int) ≤ (n : Int)) = true := by simp; omega
    go_enter Tryd.func16, Tryd.ntmps16
    go_wp2
    go_ret2
    refine ⟨?_, rfl⟩
    rw [hd, hb, show ((n : Int) - 48) % 256 = (n : Int) - 48 by omega]
    have : (decide (49 ≤ n) && decide (n ≤ 57)) = decide ((n : Int) ≤ 57) := by
      rw [decide_eq_true h1, Bool.true_and]
      exact decide_eq_decide.2 (by omega)
    rw [this]
    rfl
  · have g1 : decide ((49 : Int) ≤ (n : Int)) = false := by simp; omega
    go_enter Tryd.func16, Tryd.ntmps16
    go_wp2
    go_ret2
    refine ⟨?_, rfl⟩
    have : (decide (49 ≤ n) && decide (n ≤ 57)) = false := by rw [decide_eq_false h1, Bool.false_and]
    rw [hd, hb, this]
    rfl
def wstrs (ws : List (List UInt8)) : List Value := ws.map fun w => Value.string ⟨w.toArray⟩
theorem byte_list (s : ByteArray) : (⟨s.data.toList.toArray⟩ : ByteArray) = s := by cases s; simp
theorem split_any (S : ByteArray) (m : Int) (w : World) (hs : S.size < 4294967281) (hm : w.cell? ⟨0, 0, none⟩ = some (.int .i64 m)) :
    Calls Tryd.prog 15 #[.string S, .string ⟨#[32]⟩] w fun e w' => e = .returned (.slice (some ⟨w.heap.size, 0, none⟩) (spl S.data.toList).length (spl S.data.toList).length) ∧ w' = w.alloc (.cells (wstrs (spl S.data.toList)).toArray 9) := by
  have h1 := Lib.splitB_data ⟨#[32]⟩ 0 (Lib.countB S ⟨#[32]⟩) S
  have h2 : Lib.splitK [32] 0 (Lib.countB S ⟨#[32]⟩) S.data.toList = spl S.data.toList := split_spl S.data.toList
  have h3 : (Lib.splitB ⟨#[32]⟩ 0 (Lib.countB S ⟨#[32]⟩) S).map (·.data.toList) = spl S.data.toList := h1.trans h2
  have h4 : Lib.countB S ⟨#[32]⟩ + 1 = (spl S.data.toList).length := by
    rw [← h3, List.length_map, Lib.splitB_all ⟨#[32]⟩ (by decide) 0 _ S rfl]
  have h5 : (Lib.splitB ⟨#[32]⟩ 0 (Lib.countB S ⟨#[32]⟩) S).map Value.string = wstrs (spl S.data.toList) := by
    rw [← h3]
    unfold wstrs
    rw [List.map_map]
    exact List.map_congr_left fun x _ => by simp only [Function.comp, byte_list]
  have h := strings_Split S ⟨#[32]⟩ m w hs hm (by decide)
  rw [h4, h5] at h
  exact h
theorem side_index (c : UInt8) : Lib.indexByte [76, 82, 84, 66] c = sideI c := by
  unfold sideI
  by_cases h1 : c = 76
  · subst h1; rfl
  by_cases h2 : c = 82
  · subst h2; rfl
  by_cases h3 : c = 84
  · subst h3; rfl
  by_cases h4 : c = 66
  · subst h4; rfl
  rw [if_neg h1, if_neg h2, if_neg h3, if_neg h4]
  have g1 : ((76 : UInt8) == c) = false := by simpa using fun e => h1 e.symm
  have g2 : ((82 : UInt8) == c) = false := by simpa using fun e => h2 e.symm
  have g3 : ((84 : UInt8) == c) = false := by simpa using fun e => h3 e.symm
  have g4 : ((66 : UInt8) == c) = false := by simpa using fun e => h4 e.symm
  simp [Lib.indexByte, g1, g2, g3, g4]
theorem side_any (c : UInt8) (w : World) : Calls Tryd.prog 17 #[.string ⟨#[76, 82, 84, 66]⟩, .int .u8 (c.toNat : Int)] w fun e w' => e = .returned (.int .i64 (sideI c)) ∧ w = w' :=
  (strings_IndexByte ⟨#[76, 82, 84, 66]⟩ (c.toNat : Int) w).mono fun e w' ⟨a, b⟩ => ⟨by
    rw [a, ← side_index c]
    have : ((c.toNat : Int)).toNat.toUInt8 = c := by rw [Int.toNat_natCast]; exact UInt8.ofNat_toNat
    rw [this], b.symm⟩
theorem stepsP_none : ∀ (ws : List (List UInt8)) (k : Nat) (h : k < ws.length), stepP ws[k] = none → stepsP ws = none
  | [], k, h, _ => absurd h (by simp)
  | w :: r, 0, _, e => by simp only [List.getElem_cons_zero] at e; simp [stepsP, e]
  | w :: r, k + 1, h, e => by
    have := stepsP_none r k (by simpa using h) (by simpa using e)
    simp only [stepsP, this]
    cases stepP w <;> rfl
theorem stepsP_snoc : ∀ (ws : List (List UInt8)) (l : List Step) (w : List UInt8) (f : Step), stepsP ws = some l → stepP w = some f → stepsP (ws ++ [w]) = some (l ++ [f])
  | [], l, w, f, h, e => by cases h; simp [stepsP, e]
  | a :: r, l, w, f, h, e => by
    simp only [stepsP] at h
    split at h
    · rename_i g l' h1 h2
      cases h
      have := stepsP_snoc r l' w f h2 e
      simp [stepsP, this, h1]
    · cases h
theorem eStepK : ElemK Tryd.prog 22 33 (.agg #[.int .i64 0, .int .i64 0, .bool false]) 3 24 := ElemK.mk_ Tryd.underlying22 (by kernel_rfl) rfl
end Go.Proofs.YtjmanooedgfbaaaDoor
