/- The walk of Unhex, and the plain law that Unhex reads what Hex writes and nothing else. -/
import Derived.Test.YtdibgloaknnfgaaDoorHex
namespace Go.Proofs.YtdibgloaknnfgaaDoor
open Go.RowKit Crc
def dval (x : Nat) : Option Nat := if 48 ≤ x ∧ x ≤ 57 then some (x - 48) else if 97 ≤ x ∧ x ≤ 102 then some (x - 87) else none
def uStep (a b : Option Nat) : Option Nat := match a, b with
  | some v, some d => some (v * 16 + d)
  | _, _ => none
def uTo (l : List UInt8) : Nat → Option Nat
  | 0 => some 0
  | k + 1 => uStep (uTo l k) (dval (l.getD k 0).toNat)
def unhex (l : List UInt8) : Option Nat := if l.length = 8 then uTo l 8 else none
theorem uTo_none (l : List UInt8) (k : Nat) (h : uTo l k = none) : ∀ j, uTo l (k + j) = none
  | 0 => h
  | j + 1 => by rw [← Nat.add_assoc, uTo, uTo_none l k h j]; rfl
theorem dval_lt (x d : Nat) (h : dval x = some d) : d < 16 ∧ x = hexChar d := by
  unfold dval at h
  split at h
  · injection h with h; unfold hexChar; rw [if_pos (by omega)]; omega
  · split at h
    · injection h with h; unfold hexChar; split <;> omega
    · cases h
theorem uTo_some (l : List UInt8) (k : Nat) : ∀ v, uTo l k = some v → v < 16 ^ k ∧ ∀ i, i < k → (l.getD i 0).toNat = hexChar (v / 16 ^ (k - 1 - i) % 16) := by
  induction k with
  | zero => intro v h; simp only [uTo] at h; injection h with h; exact ⟨by simp; omega, fun i hi => by omega⟩
  | succ k ih =>
    intro v h
    simp only [uTo, uStep] at h
    split at h
    · rename_i a b u d h1 h2
      injection h with h
      obtain ⟨hu, hi⟩ := ih u h1
      obtain ⟨hd, hx⟩ := dval_lt _ _ h2
      refine ⟨by rw [Nat.pow_succ]; omega, fun i hik => ?_⟩
      by_cases hk : i = k
      · subst hk
        rw [hx, show i + 1 - 1 - i = 0 by omega, Nat.pow_zero, Nat.div_one]; congr 1; omega
      · rw [hi i (by omega), show k + 1 - 1 - i = (k - 1 - i) + 1 by omega, Nat.pow_succ, Nat.mul_comm, ← Nat.div_div_eq_div_mul, show v / 16 = u by omega]
    · cases h
theorem hexChar_dval : ∀ d : Fin 16, dval (hexChar d.val) = some d.val := by decide
theorem uTo_hex (n : Nat) (hn : n < 4294967296) (k : Nat) (hk : k ≤ 8) : uTo (hexBytes n) k = some (n / 2 ^ (32 - 4 * k)) := by
  induction k with
  | zero => simp only [uTo]; rw [Nat.div_eq_of_lt (by simpa using hn)]
  | succ k ih =>
    simp only [uTo]
    rw [ih (by omega)]
    have e : ((hexBytes n).getD k 0).toNat = hexChar (n / 2 ^ (28 - 4 * k) % 16) := by
      simp only [hexBytes, List.getD_eq_getElem?_getD, List.getElem?_map, List.getElem?_range (show k < 8 by omega), Option.map_some, Option.getD_some]
      rw [UInt8.toNat_ofNat_of_lt' (by simpa using hexAt_lt n k)]; rfl
    rw [e, hexChar_dval ⟨n / 2 ^ (28 - 4 * k) % 16, by omega⟩]
    simp only [uStep]
    congr 1
    rw [show 32 - 4 * (k + 1) = 28 - 4 * k by omega, show 32 - 4 * k = (28 - 4 * k) + 4 by omega, Nat.pow_add, ← Nat.div_div_eq_div_mul]
    omega
theorem unhex_hex (n : Nat) (hn : n < 4294967296) : unhex (hexBytes n) = some n := by
  unfold unhex
  rw [if_pos (by simp [hexBytes]), uTo_hex n hn 8 (by omega)]; simp
theorem hex_unhex (l : List UInt8) (v : Nat) (h : unhex l = some v) : v < 4294967296 ∧ hexBytes v = l := by
  unfold unhex at h
  split at h
  · rename_i hl
    obtain ⟨h1, h2⟩ := uTo_some l 8 v h
    refine ⟨by simpa using h1, ?_⟩
    apply List.ext_getElem
    · simp [hexBytes, hl]
    · intro i hi hi'
      have := h2 i (by omega)
      rw [List.getD_eq_getElem?_getD, List.getElem?_eq_getElem hi', Option.getD_some] at this
      simp only [hexBytes, List.getElem_map, List.getElem_range]
      apply UInt8.toNat_inj.1
      rw [UInt8.toNat_ofNat_of_lt' (by simpa using hexAt_lt v i), this]
      unfold hexAt
      rw [show 28 - 4 * i = 4 * (7 - i) by omega, Nat.pow_mul]
  · cases h
def uRes (o : Option Nat) : Value := match o with
  | some v => .tuple #[.int .u32 (v : Int), .int .i64 0]
  | none => .tuple #[.int .u32 0, .int .i64 5]
theorem or_dig (v d : Nat) (hv : v < 268435456) (hd : d < 16) : bits .or .u32 (↑v * 16) (d : Int) = ((v * 16 + d : Nat) : Int) := by
  rw [show ((v : Int) * 16) = ((v * 16 : Nat) : Int) by omega, u32_or_nat _ _ (by omega) (by omega), nat_join 4 _ _ (by omega) (by omega)]
theorem unhex_any (s : ByteArray) (w : World) :
    Calls Tryd.prog 10 #[.string s] w fun e w' => e = .returned (uRes (unhex s.data.toList)) ∧ w = w' := by
  by_cases h8 : s.size = 8
  · go_enter Tryd.func10, Tryd.ntmps10
    go_wp2
    go_loop [4, 5, 6, 12, 18, 27] (fun vc _ _ vi _ _ => ∃ k v : Nat, k ≤ 8 ∧ vi = .int .i64 k ∧ vc = .int .u32 (v : Int) ∧ uTo s.data.toList k = some v) (fun _ _ _ i _ _ => 8 - (intOf i).toNat)
    case atStart => exact ⟨0, 0, by omega, rfl, rfl, rfl⟩
    case round =>
      obtain ⟨k, v, hk, rfl, rfl, hU⟩ := hrel
      have HU := Lib.hid hU
      clear hU
      by_cases hlt : k < 8
      · have hks : k < s.size := by omega
        have hv : v < 268435456 := by
          have := (uTo_some _ _ _ HU.out).1
          have h2 : 16 ^ k ≤ 16 ^ 7 := Nat.pow_le_pow_right (by omega) (by omega)
          omega
        have HG : Hid ((s.data.toList.getD k 0).toNat = s[k].toNat) := by
          unfold Hid; rw [List.getD_eq_getElem?_getD, Array.getElem?_toList, Array.getElem?_eq_getElem (show k < s.data.size from hks)]; rfl
        by_cases hd : 48 ≤ (s[k].toNat : Int) ∧ (s[k].toNat : Int) ≤ 57
        · obtain ⟨hd1, hd2⟩ := hd
          have HN : Hid (uTo s.data.toList (k + 1) = some (v * 16 + (s[k].toNat - 48))) := by
            unfold Hid; simp only [uTo]; rw [HU.out, HG.out, dval, if_pos (by omega)]; rfl
          have HO := Lib.hid (or_dig v (s[k].toNat - 48) hv (by omega))
          clear HU HG
          go_wp2
          go_round
          case rel => exact ⟨k + 1, v * 16 + (s[k].toNat - 48), by omega, by go_num, by rw [← HO.out]; congr 2; omega, HN.out⟩
          case measure => simp [intOf]; omega
        · by_cases hl : 97 ≤ (s[k].toNat : Int) ∧ (s[k].toNat : Int) ≤ 102
          · obtain ⟨hd1, hd2⟩ := hl
            have HN : Hid (uTo s.data.toList (k + 1) = some (v * 16 + (s[k].toNat - 87))) := by
              unfold Hid; simp only [uTo]; rw [HU.out, HG.out, dval, if_neg (by omega), if_pos (by omega)]; rfl
            have HO := Lib.hid (or_dig v (s[k].toNat - 87) hv (by omega))
            clear HU HG hd
            go_wp2
            go_round
            case rel => exact ⟨k + 1, v * 16 + (s[k].toNat - 87), by omega, by go_num, by rw [← HO.out]; congr 2; omega, HN.out⟩
            case measure => simp [intOf]; omega
          · have HN : Hid (unhex s.data.toList = none) := by
              have h1 : uTo s.data.toList (k + 1) = none := by
                simp only [uTo]; rw [HU.out, HG.out, dval, if_neg (by omega), if_neg (by omega)]; rfl
              have h2 := uTo_none _ _ h1 (7 - k)
              rw [show k + 1 + (7 - k) = 8 by omega] at h2
              unfold Hid unhex; rw [if_pos (by simpa using h8), h2]
            clear HU HG
            by_cases h48 : 48 ≤ (s[k].toNat : Int)
            · have h57 : 57 < (s[k].toNat : Int) := by omega
              by_cases h97 : 97 ≤ (s[k].toNat : Int)
              · have h102 : 102 < (s[k].toNat : Int) := by omega
                clear hd hl
                go_wp2
                go_ret2
                exact ⟨by rw [HN.out]; rfl, rfl⟩
              · clear hd hl
                go_wp2
                go_ret2
                exact ⟨by rw [HN.out]; rfl, rfl⟩
            · clear hd hl
              go_wp2
              go_ret2
              exact ⟨by rw [HN.out]; rfl, rfl⟩
      · obtain rfl : k = 8 := by omega
        have HN : Hid (unhex s.data.toList = some v) := by unfold Hid unhex; rw [if_pos (by simpa using h8), HU.out]
        clear HU
        go_wp2
        go_ret2
        exact ⟨by rw [HN.out]; rfl, rfl⟩
  · have : unhex s.data.toList = none := by unfold unhex; rw [if_neg (by simpa using h8)]
    rw [this]
    have h9 : ((s.size : Int) != 8) = true := by rw [bne_iff_ne]; omega
    go_enter Tryd.func10, Tryd.ntmps10
    go_wp2
    go_ret2
    exact ⟨rfl, rfl⟩
end Go.Proofs.YtdibgloaknnfgaaDoor
