/- The walks of get and signed: an unpacker of a call's own. -/
import Derived.Test.YtefkglmdkjkbiaaDoorFntRead
import Derived.Test.YtefkglmdkjkbiaaDoorFntMem
import Derived.Test.YtefkglmdkjkbiaaDoorBuilderR
import Derived.IntWalk
namespace Go.Proofs.YtefkglmdkjkbiaaDoor
open Go.RowKit Fnt
/-- The unpacker in block b holds u. -/
def UpM (w : World) (b : Nat) (u : Up) : Prop := Blk w b 91 #[.string ⟨u.s.toArray⟩, .bool u.bad]
/-- Nothing turns but block b. -/
structure Fr1 (b : Nat) (w w' : World) : Prop where
  fr : ∀ R, FrX R b w w'
  size : w'.heap.size = w.heap.size
theorem Fr1.refl (b : Nat) (w : World) : Fr1 b w w := ⟨fun _ => FrX.refl _ _ _, rfl⟩
theorem Fr1.trans {b : Nat} {a w c : World} (h : Fr1 b a w) (k : Fr1 b w c) : Fr1 b a c := ⟨fun R => (h.fr R).trans (k.fr R), k.size.trans h.size⟩
theorem Fr1.set (b : Nat) (w : World) (i : Nat) (u : Value) : Fr1 b w (w.setCell ⟨b, i, none⟩ u) := ⟨fun R => FrX.set _ _ _ _ _, by simp [World.setCell]⟩
theorem ofInt_64 (a : Nat) (ha : a < 2 ^ 60) : (BitVec.ofInt 64 (a : Int)).toNat = a := by
  rw [BitVec.ofInt_natCast, BitVec.toNat_ofNat]; exact Nat.mod_eq_of_lt (by omega)
theorem i64_or_nat (a b : Nat) (ha : a < 2 ^ 60) (hb : b < 2 ^ 60) : bits .or .i64 (a : Int) (b : Int) = ((a ||| b : Nat) : Int) := by
  have hx : a ||| b < 2 ^ 60 := Nat.or_lt_two_pow ha hb
  show IntKind.i64.wrap ((BitVec.ofInt 64 (a : Int) ||| BitVec.ofInt 64 (b : Int)).toNat : Int) = _
  rw [BitVec.toNat_or, ofInt_64 a ha, ofInt_64 b hb, IntKind.wrap_i64]
  omega
theorem or_byte (v : Int) (c : UInt8) (h0 : 0 ≤ v) (h1 : v < 2 ^ 50) : bits .or .i64 (wrap64 (v * 256)) (wrap64 (c.toNat : Int)) = v * 256 + (c.toNat : Int) := by
  obtain ⟨m, rfl⟩ := Int.eq_ofNat_of_zero_le h0
  have hc := c.toNat_lt
  have w1 : wrap64 ((m : Int) * 256) = (m : Int) * 256 := by unfold wrap64; omega
  have w2 : wrap64 (c.toNat : Int) = (c.toNat : Int) := by unfold wrap64; omega
  rw [w1, w2]
  have k1 : m * 256 < 2 ^ 60 := by omega
  have k2 : c.toNat < 2 ^ 60 := by omega
  have k3 := i64_or_nat (m * 256) c.toNat k1 k2
  rw [Int.natCast_mul] at k3
  rw [show ((256 : Nat) : Int) = 256 from rfl] at k3
  rw [k3]
  have h8 : c.toNat < 2 ^ 8 := hc
  have k4 := Nat.shiftLeft_add_eq_or_of_lt h8 m
  rw [Nat.shiftLeft_eq] at k4
  have k5 : m * 256 ||| c.toNat = m * 256 + c.toNat := k4.symm
  rw [k5]
  omega
theorem beVal_snoc (l : List UInt8) (c : UInt8) : beVal (l ++ [c]) = beVal l * 256 + (c.toNat : Int) := by simp [beVal]
theorem beVal_bd (l : List UInt8) : 0 ≤ beVal l ∧ beVal l < 256 ^ l.length := by
  suffices h : ∀ n : Nat, ∀ l : List UInt8, l.length = n → 0 ≤ beVal l ∧ beVal l < 256 ^ n from h _ l rfl
  intro n
  induction n with
  | zero => intro l hl; obtain rfl := List.eq_nil_of_length_eq_zero hl; simp [beVal]
  | succ n ih =>
    intro l hl
    have hne : l ≠ [] := fun e => by subst e; simp at hl
    rw [← List.dropLast_concat_getLast hne] at hl ⊢
    generalize l.dropLast = p at *
    generalize l.getLast hne = c at *
    have := ih p (by simpa using hl)
    have hc := c.toNat_lt
    rw [beVal_snoc, Int.pow_succ]
    omega
theorem beVal_small {l : List UInt8} (h : l.length ≤ 6) : 0 ≤ beVal l ∧ beVal l < 2 ^ 50 := by
  have h1 := beVal_bd l
  have h2 : l.length = 0 ∨ l.length = 1 ∨ l.length = 2 ∨ l.length = 3 ∨ l.length = 4 ∨ l.length = 5 ∨ l.length = 6 := by omega
  rcases h2 with e | e | e | e | e | e | e <;> rw [e] at h1 <;> omega
set_option maxHeartbeats 2000000 in
theorem get_any (k : Nat) (u : Up) (b : Nat) (w : World) (h : UpM w b u) (hl : u.s.length ≤ 1000000) (hk : k ≤ 6) :
    Calls Tryd.prog 39 #[.pointer (some ⟨b, 0, none⟩), .int .i64 k] w fun e w' => e = .returned (.int .i64 (getV k u)) ∧ UpM w' b (getU k u) ∧ Fr1 b w w' := by
  obtain ⟨s, bad⟩ := u
  have c0 := h.cell 0
  have c1 := h.cell 1
  have f0 := h.frozen 0
  have f1 := h.frozen 1
  simp only [List.getElem?_toArray, List.getElem?_cons_zero, List.getElem?_cons_succ] at c0 c1
  have HM := Lib.hid h
  have hV : getV k ⟨s, bad⟩ = if s.length < k then 0 else beVal (s.take k) := rfl
  have hU : getU k ⟨s, bad⟩ = if s.length < k then ⟨s, true⟩ else ⟨s.drop k, bad⟩ := rfl
  dsimp only at hl c0 c1
  obtain ⟨S, hS⟩ : ∃ S : ByteArray, S = ⟨s.toArray⟩ := ⟨_, rfl⟩
  have hsz : S.size = s.length := by rw [hS]; simp [ByteArray.size]
  rw [← hS] at c0
  have HS := Lib.hid hS
  have HSz := Lib.hid hsz
  by_cases hlt : s.length < k
  · rw [if_pos hlt] at hV hU
    have hlt2 : S.size < k := by omega
    have HV := Lib.hid hV
    have HU := Lib.hid hU
    have HE : Hid (UpM (w.setCell ⟨b, 1, none⟩ (.bool true)) b ⟨s, true⟩) := by
      have := HM.out.put 1 (.bool true)
      unfold Hid UpM; simpa using this
    clear h hS hsz hV hU
    go_enter Tryd.func39, Tryd.ntmps39
    go_wp2
    go_ret
    exact ⟨endInt HV.out.symm, by rw [HU.out]; exact HE.out, Fr1.set _ _ _ _⟩
  · rw [if_neg hlt] at hV hU
    have hlt2 : k ≤ S.size := by omega
    have hl2 : S.size ≤ 1000000 := by omega
    have HV := Lib.hid hV
    have HU := Lib.hid hU
    clear h hS hsz hV hU hlt
    go_enter Tryd.func39, Tryd.ntmps39
    go_wp2
    go_loop [5, 18] (fun vn vi => ∃ i : Nat, i ≤ k ∧ vi = .int .i64 i ∧ vn = .int .i64 (beVal (s.take i))) (fun _ i => k - (intOf i).toNat)
    case atStart => exact ⟨0, by omega, rfl, rfl⟩
    case round =>
      obtain ⟨i, hi, rfl, rfl⟩ := hrel
      by_cases hlti : i < k
      · have hx : i < S.size := by omega
        have hsn : s.take (i + 1) = s.take i ++ [S[i]] := by
          have hi' : i < s.length := by have := HSz.out; omega
          rw [List.take_succ_eq_append_getElem hi']
          congr 2
          have := HS.out
          subst this
          rfl
        have hbv : beVal (s.take (i + 1)) = beVal (s.take i) * 256 + (S[i].toNat : Int) := by rw [hsn, beVal_snoc]
        have hbd := beVal_small (l := s.take i) (by rw [List.length_take]; omega)
        have hor := or_byte (beVal (s.take i)) S[i] hbd.1 hbd.2
        rw [← hbv] at hor
        have HOr := Lib.hid hor
        clear hsn hbv hor hbd
        generalize beVal (s.take i) = v at *
        go_wp2
        go_round
        case rel => exact ⟨i + 1, by omega, by go_num, by rw [HOr.out]⟩
        case measure => simp [intOf]; omega
      · obtain rfl : i = k := by omega
        have HE : Hid (UpM (w.setCell ⟨b, 0, none⟩ (.string (S.extract i S.size))) b ⟨s.drop i, bad⟩) := by
          have h1 := HM.out.put 0 (.string (S.extract i S.size))
          have h2 : S.extract i S.size = ⟨(s.drop i).toArray⟩ := by
            rw [HSz.out, HS.out]
            apply ByteArray.ext
            rw [ByteArray.data_extract]
            apply Array.ext'
            simp [List.take_of_length_le]
          unfold Hid UpM
          rw [← h2]
          simpa using h1
        generalize beVal (s.take i) = v at *
        go_wp2
        go_ret
        exact ⟨endInt HV.out.symm, by rw [HU.out]; exact HE.out, Fr1.set _ _ _ _⟩
def SgV (k : Int) : Int := sgn k
theorem getV_bd (u : Up) (k : Nat) (hk : k ≤ 6) : 0 ≤ getV k u ∧ getV k u < 2 ^ 50 := by
  unfold getV
  split
  · omega
  · exact beVal_small (by rw [List.length_take]; omega)
theorem getU_len (k : Nat) (u : Up) : (getU k u).s.length ≤ u.s.length := by
  unfold getU
  split
  · exact Nat.le_refl _
  · simp
theorem i16_wrap (v : Int) : wrap64 (IntKind.i16.wrap v) = sgn v := by
  have h : IntKind.i16.wrap v = sgn v := by unfold sgn; simp [IntKind.wrap, IntKind.bits, IntKind.signed]; omega
  rw [h]
  unfold wrap64 sgn; omega
set_option maxHeartbeats 2000000 in
theorem signed_any (u : Up) (b : Nat) (w : World) (h : UpM w b u) (hl : u.s.length ≤ 1000000) :
    Calls Tryd.prog 41 #[.pointer (some ⟨b, 0, none⟩)] w fun e w' => e = .returned (.int .i64 (sV u)) ∧ UpM w' b (getU 2 u) ∧ Fr1 b w w' := by
  have HG := Lib.hid (get_any 2 u b w h hl (by omega))
  rw [show ((2 : Nat) : Int) = 2 from rfl] at HG
  have hbd := getV_bd u 2 (by omega)
  have HSv : Hid (sV u = sgn (getV 2 u)) := rfl
  generalize sV u = sv at *
  generalize getV 2 u = v at *
  clear h
  go_enter Tryd.func41, Tryd.ntmps41
  go_wp2_with fail
  refine HG.out.mono ?_
  rintro e w5 ⟨rfl, hm5, hf5⟩
  have HM5 := Lib.hid hm5
  have HF5 := Lib.hid hf5
  clear hm5 hf5
  go_wp2
  go_ret
  exact ⟨endInt (by rw [HSv.out, i16_wrap]), HM5.out, HF5.out⟩
end Go.Proofs.YtefkglmdkjkbiaaDoor
