/- Rows of tokens in memory. The walk of printedName. The walk of printedText. The walk of check, for a token that Print writes. The walk of Print, for a token that it writes. The walks of check and Print, for a leaf's token that Print refuses. -/
import Derived.Test.YthbdhijkdldmoaaGreatDoorTokNx
import Derived.Test.YthbdhijkdldmoaaGreatDoorTokPlain
import Derived.BigRegion
import Derived.Deep.DeepMust
import Derived.Deep.RegionHeld3
import Derived.RegionTactic
import Derived.Test.YthbdhijkdldmoaaGreatDoorTokText
import Derived.Lib.SmallJoins
import Derived.Lib.AppendIntMem
import Derived.Lib.ItoaMem
import Derived.Test.YthbdhijkdldmoaaGreatDoorTokSmall
namespace Go.Proofs.YthbdhijkdldmoaaGreatDoor
open Go.RowKit Tk
/-- A token's cells. -/
def tokC (t : Tok) : List Value := [.int .i64 t.b.kind, .int .i64 t.b.int, .string ⟨t.b.text.toArray⟩, .int .i64 (t.at_ : Int), .int .i64 (t.en : Int)]
def toksC (ts : List Tok) : List Value := ts.flatMap tokC
theorem toksC_snoc (ts : List Tok) (t : Tok) : toksC (ts ++ [t]) = toksC ts ++ tokC t := by unfold toksC; rw [List.flatMap_append]; simp
theorem toksC_len (ts : List Tok) : (toksC ts).length = ts.length * 5 := by
  induction ts with
  | nil => rfl
  | cons t r ih =>
    rw [show toksC (t :: r) = tokC t ++ toksC r from rfl, List.length_append, ih, List.length_cons]
    simp [tokC]; omega
theorem vtok_pos {b : BTok} (h : VTok b) : 1 ≤ b.kind ∧ b.kind ≤ 9 := by
  cases h <;> (dsimp only; omega)
theorem eTk : ElemK Tryz.prog 45 53 (.agg #[.int .i64 0, .int .i64 0, .string ⟨#[]⟩, .int .i64 0, .int .i64 0]) 5 48 := ElemK.mk_ Tryz.underlying45 (by kernel_rfl) rfl
theorem toksC_get (ts : List Tok) (i j : Nat) (hi : i < ts.length) (hj : j < 5) : (toksC ts)[i * 5 + j]? = (tokC ts[i])[j]? := by
  induction ts generalizing i with
  | nil => cases hi
  | cons t r ih =>
    rw [show toksC (t :: r) = tokC t ++ toksC r from rfl]
    cases i with
    | zero => rw [List.getElem?_append_left (by simp [tokC]; omega)]; simp
    | succ i =>
      rw [List.getElem?_append_right (by simp [tokC]; omega), show (i + 1) * 5 + j - (tokC t).length = i * 5 + j by simp [tokC]; omega]
      exact ih i (by simpa using hi)
/-- The cells of a token of an own row. -/
theorem toks_cells {W : World} {base n g cap : Nat} {ts : List Tok} (h : W.ownsRow base 53 5 (.slice (some ⟨g, 0, none⟩) n cap) n (toksC ts)) (i : Nat) (hi : i < ts.length) :
    W.cell? ⟨g, i * 5, none⟩ = some (.int .i64 ts[i].b.kind) ∧ W.cell? ⟨g, i * 5 + 1, none⟩ = some (.int .i64 ts[i].b.int) ∧ W.cell? ⟨g, i * 5 + 2, none⟩ = some (.string ⟨ts[i].b.text.toArray⟩) ∧ W.cell? ⟨g, i * 5 + 3, none⟩ = some (.int .i64 (ts[i].at_ : Int)) ∧ W.cell? ⟨g, i * 5 + 4, none⟩ = some (.int .i64 (ts[i].en : Int)) := by
  have key : ∀ j (hj : j < 5), W.cell? ⟨g, i * 5 + j, none⟩ = (tokC ts[i])[j]? := fun j hj => by
    have h1 := toksC_get ts i j hi hj
    have h2 : (tokC ts[i])[j]? = some ((tokC ts[i])[j]'(by simp [tokC]; omega)) := List.getElem?_eq_getElem _
    rw [h2] at h1 ⊢
    have := h.cells (g := g) rfl _ _ h1
    simpa [add_plain] using this
  exact ⟨key 0 (by omega), key 1 (by omega), key 2 (by omega), key 3 (by omega), key 4 (by omega)⟩
theorem own_n {w : World} {base : Nat} {e : TypeId} {size : Nat} {v : Value} {n : Nat} {xs : List Value} (h : w.ownsRow base e size v n xs) : ∃ A c, v = .slice A n c := by
  rcases h.2 with ⟨rfl, rfl⟩ | ⟨g, cap, cur, rfl, _⟩
  · exact ⟨_, _, rfl⟩
  · exact ⟨_, _, rfl⟩
theorem own_some {w : World} {base : Nat} {e : TypeId} {size n c : Nat} {A : Option Addr} {xs : List Value} (h : w.ownsRow base e size (.slice A n c) n xs) (hn : 0 < n) : ∃ g, A = some ⟨g, 0, none⟩ ∧ base ≤ g ∧ g < w.heap.size := by
  obtain ⟨g, cap, e1, -, -⟩ := h.form hn
  injection e1 with e1
  subst e1
  exact ⟨g, rfl, (own_lt h g rfl).1, (own_lt h g rfl).2⟩
end Go.Proofs.YthbdhijkdldmoaaGreatDoor
namespace Go.Proofs.YthbdhijkdldmoaaGreatDoor
open Go.RowKit Tk
theorem dig_hi (x : UInt8) (h : x.toNat / 16 < (⟨#[48, 49, 50, 51, 52, 53, 54, 55, 56, 57, 97, 98, 99, 100, 101, 102]⟩ : ByteArray).size) : (((⟨#[48, 49, 50, 51, 52, 53, 54, 55, 56, 57, 97, 98, 99, 100, 101, 102]⟩ : ByteArray)[x.toNat / 16]'h).toNat : Int) = bt (hexC (x >>> 4)) := by
  have := u8_all (fun x => (⟨#[48, 49, 50, 51, 52, 53, 54, 55, 56, 57, 97, 98, 99, 100, 101, 102]⟩ : ByteArray).data.toList[x.toNat / 16]? == some (hexC (x >>> 4))) (by decide +kernel) x
  have h2 := beq_iff_eq.1 this
  rw [List.getElem?_eq_getElem (by show x.toNat / 16 < 16; have := x.toNat_lt; omega)] at h2
  have h3 := Option.some.inj h2
  unfold bt
  rw [← h3]; rfl
theorem dig_lo (x : UInt8) (h : x.toNat % 16 < (⟨#[48, 49, 50, 51, 52, 53, 54, 55, 56, 57, 97, 98, 99, 100, 101, 102]⟩ : ByteArray).size) : (((⟨#[48, 49, 50, 51, 52, 53, 54, 55, 56, 57, 97, 98, 99, 100, 101, 102]⟩ : ByteArray)[x.toNat % 16]'h).toNat : Int) = bt (hexC (x &&& 15)) := by
  have := u8_all (fun x => (⟨#[48, 49, 50, 51, 52, 53, 54, 55, 56, 57, 97, 98, 99, 100, 101, 102]⟩ : ByteArray).data.toList[x.toNat % 16]? == some (hexC (x &&& 15))) (by decide +kernel) x
  have h2 := beq_iff_eq.1 this
  rw [List.getElem?_eq_getElem (by show x.toNat % 16 < 16; omega)] at h2
  have h3 := Option.some.inj h2
  unfold bt
  rw [← h3]; rfl
theorem take_byte (S : ByteArray) (k : Nat) (h : k < S.size) : (bys S).take (k + 1) = (bys S).take k ++ [S[k]'h] := by
  rw [List.take_succ_eq_append_getElem (by rw [bys_len]; exact h)]; rfl
theorem byts_len_le (l : Tk.Src) (k : Nat) : (prName (l.take k)).length ≤ 3 * k := by
  have := prName_le (l.take k); rw [List.length_take] at this; omega
set_option maxHeartbeats 8000000 in
theorem prName_any (l : Tk.Src) (w : World) (hl : l.length ≤ 100000) :
    Calls Tryz.prog 63 #[.string ⟨l.toArray⟩] w fun e w' => e = .returned (.string ⟨(prName l).toArray⟩) ∧ Below w.heap.size w w' := by
  obtain ⟨S, hS⟩ : ∃ S : ByteArray, S = ⟨l.toArray⟩ := ⟨_, rfl⟩
  rw [← hS]
  have hz : S.size = l.length := by rw [hS]; simp [ByteArray.size]
  have HB : Hid (bys S = l) := by unfold Hid; rw [hS]; simp [bys]
  have hs : S.size ≤ 100000 := by omega
  have hs0 : (S.size : Int) ≤ 100000 := by omega
  have hb1 := (Below.refl w.heap.size w).alloc (Nat.le_refl _) (.cells #[.pointer none, .slice none 0 0] 77)
  have hk1 : Pk (w.heap.size + 1) w.heap.size [] (w.alloc (.cells #[.pointer none, .slice none 0 0] 77)) := pk_fresh (Blk.new w _ _)
  have hs1 : w.heap.size + 1 ≤ (w.alloc (.cells #[.pointer none, .slice none 0 0] 77)).heap.size := by simp
  have HB1 := Lib.hid hb1
  have HK1 := Lib.hid hk1
  clear hS hz hb1 hk1
  go_enter Tryz.func63, Tryz.ntmps63
  go_wp2_with fail
  generalize w.alloc (.cells #[.pointer none, .slice none 0 0] 77) = w1 at *
  go_loopw [8] (fun v8 wq => True ∧ ∃ (k : Nat), v8 = .int .i64 k ∧ k ≤ S.size ∧ Pk (w.heap.size + 1) w.heap.size (prName ((bys S).take k)) wq ∧ Below w.heap.size w wq ∧ w.heap.size + 1 ≤ wq.heap.size) (fun v8 _ => S.size - (intOf v8).toNat)
  case atStart => exact ⟨trivial, 0, rfl, Nat.zero_le _, by rw [List.take_zero]; exact HK1.out, HB1.out, hs1⟩
  case round =>
    obtain ⟨-, k, rfl, hk, hpk, hbl, hsz⟩ := hrel
    have HPk := Lib.hid hpk
    have HBl := Lib.hid hbl
    have HWB : Hid (∀ (W : World) (acc : Tk.Src) (v : Int) (c : UInt8), v = bt c → Pk (w.heap.size + 1) w.heap.size acc W → Below w.heap.size w W → w.heap.size + 1 ≤ W.heap.size → acc.length ≤ 1000000 → Calls Tryz.prog 43 #[.pointer (some ⟨w.heap.size, 0, none⟩), .int .u8 v] W fun e w' => e = .returned .nilIface ∧ Pk (w.heap.size + 1) w.heap.size (acc ++ [c]) w' ∧ Below w.heap.size w w' ∧ w.heap.size + 1 ≤ w'.heap.size) := fun W acc v c hv hp hb hz ha =>
      (pk_byte hp c v hv (by omega) hz).mono fun e w' h => ⟨h.1, h.2.1, hb.trans ((FrS.of_x (S := fun k => k = w.heap.size) h.2.2.1 rfl).below (by omega) fun k e => by omega), by have := h.2.2.1.size; omega⟩
    clear hpk hbl
    by_cases hlt : k < S.size
    · have hi1 : (k : Int) < (S.size : Int) := by omega
      have HL := Lib.hid fun W => letter_any (S[k]'hlt) W
      have HD := Lib.hid fun W => digit_any (S[k]'hlt) W
      have hxn := (bt_nn (S[k]'hlt)).1
      have hxn2 := (bt_nn (S[k]'hlt)).2
      have HTk : Hid (prName ((bys S).take (k + 1)) = prName ((bys S).take k) ++ if plainName (S[k]'hlt) = true then [S[k]'hlt] else [35, hexC ((S[k]'hlt) >>> 4), hexC ((S[k]'hlt) &&& 15)]) := by
        unfold Hid
        rw [take_byte S k hlt]
        unfold prName
        rw [List.flatMap_append]
        simp
      have hln := byts_len_le (bys S) k
      generalize prName ((bys S).take k) = acc at *
      cases hlet : letter (S[k]'hlt)
      · rw [hlet] at HL
        cases hdig : digit (S[k]'hlt)
        · rw [hdig] at HD
          by_cases h95 : S[k]'hlt = 95
          · have q95 : (((S[k]'hlt).toNat : Int) == 95) = true := by rw [h95]; rfl
            have HPl : Hid (plainName (S[k]'hlt) = true) := by unfold Hid; rw [h95]; decide
            clear hlet hdig h95
            go_wp2_with fail
            refine (HL.out _).mono ?_
            rintro e w2 ⟨rfl, rfl⟩
            go_wp2_with fail
            refine (HD.out _).mono ?_
            rintro e w2 ⟨rfl, rfl⟩
            go_wp2_with fail
            refine (HWB.out _ _ _ (S[k]'hlt) rfl HPk.out HBl.out hsz (by omega)).mono ?_
            rintro e x1 ⟨rfl, hpk1, hbl1, hsz1⟩
            have HPk1 := Lib.hid hpk1
            have HBl1 := Lib.hid hbl1
            clear hpk1 hbl1
            go_wp2_with fail
            go_roundw
            case rel => exact ⟨trivial, k + 1, by go_num, by omega, (by rw [HTk.out, if_pos HPl.out]; exact HPk1.out), HBl1.out, hsz1⟩
            case measure => simp [intOf]; omega
          · have q95 : (((S[k]'hlt).toNat : Int) == 95) = false := bt_ne (S[k]'hlt) 95 h95
            by_cases h45 : S[k]'hlt = 45
            · have q45 : (((S[k]'hlt).toNat : Int) == 45) = true := by rw [h45]; rfl
              have HPl : Hid (plainName (S[k]'hlt) = true) := by unfold Hid; rw [h45]; decide
              clear hlet hdig h95 h45
              go_wp2_with fail
              refine (HL.out _).mono ?_
              rintro e w2 ⟨rfl, rfl⟩
              go_wp2_with fail
              refine (HD.out _).mono ?_
              rintro e w2 ⟨rfl, rfl⟩
              go_wp2_with fail
              refine (HWB.out _ _ _ (S[k]'hlt) rfl HPk.out HBl.out hsz (by omega)).mono ?_
              rintro e x1 ⟨rfl, hpk1, hbl1, hsz1⟩
              have HPk1 := Lib.hid hpk1
              have HBl1 := Lib.hid hbl1
              clear hpk1 hbl1
              go_wp2_with fail
              go_roundw
              case rel => exact ⟨trivial, k + 1, by go_num, by omega, (by rw [HTk.out, if_pos HPl.out]; exact HPk1.out), HBl1.out, hsz1⟩
              case measure => simp [intOf]; omega
            · have q45 : (((S[k]'hlt).toNat : Int) == 45) = false := bt_ne (S[k]'hlt) 45 h45
              by_cases h46 : S[k]'hlt = 46
              · have q46 : (((S[k]'hlt).toNat : Int) == 46) = true := by rw [h46]; rfl
                have HPl : Hid (plainName (S[k]'hlt) = true) := by unfold Hid; rw [h46]; decide
                clear hlet hdig h95 h45 h46
                go_wp2_with fail
                refine (HL.out _).mono ?_
                rintro e w2 ⟨rfl, rfl⟩
                go_wp2_with fail
                refine (HD.out _).mono ?_
                rintro e w2 ⟨rfl, rfl⟩
                go_wp2_with fail
                refine (HWB.out _ _ _ (S[k]'hlt) rfl HPk.out HBl.out hsz (by omega)).mono ?_
                rintro e x1 ⟨rfl, hpk1, hbl1, hsz1⟩
                have HPk1 := Lib.hid hpk1
                have HBl1 := Lib.hid hbl1
                clear hpk1 hbl1
                go_wp2_with fail
                go_roundw
                case rel => exact ⟨trivial, k + 1, by go_num, by omega, (by rw [HTk.out, if_pos HPl.out]; exact HPk1.out), HBl1.out, hsz1⟩
                case measure => simp [intOf]; omega
              · have q46 : (((S[k]'hlt).toNat : Int) == 46) = false := bt_ne (S[k]'hlt) 46 h46
                have HPl : Hid (¬ plainName (S[k]'hlt) = true) := by unfold Hid plainName; rw [hlet, hdig]; simp [h95, h45, h46]
                have h16 : ((S[k]'hlt).toNat : Int) / 16 < 16 := by unfold bt at hxn2; omega
                have h160 : (0 : Int) ≤ ((S[k]'hlt).toNat : Int) / 16 := by unfold bt at hxn; omega
                clear hlet hdig h95 h45 h46
                go_wp2_with fail
                refine (HL.out _).mono ?_
                rintro e w2 ⟨rfl, rfl⟩
                go_wp2_with fail
                refine (HD.out _).mono ?_
                rintro e w2 ⟨rfl, rfl⟩
                go_wp2_with fail
                refine (HWB.out _ _ _ 35 rfl HPk.out HBl.out hsz (by omega)).mono ?_
                rintro e x1 ⟨rfl, hpk1, hbl1, hsz1⟩
                have HPk1 := Lib.hid hpk1
                have HBl1 := Lib.hid hbl1
                clear hpk1 hbl1
                go_wp2_with fail
                refine (HWB.out _ _ _ (hexC ((S[k]'hlt) >>> 4)) (dig_hi _ _) HPk1.out HBl1.out hsz1 (by rw [List.length_append, List.length_singleton]; omega)).mono ?_
                rintro e x2 ⟨rfl, hpk2, hbl2, hsz2⟩
                have HPk2 := Lib.hid hpk2
                have HBl2 := Lib.hid hbl2
                clear hpk2 hbl2
                go_wp2_with fail
                refine (HWB.out _ _ _ (hexC ((S[k]'hlt) &&& 15)) (dig_lo _ _) HPk2.out HBl2.out hsz2 (by rw [List.length_append, List.length_append, List.length_singleton, List.length_singleton]; omega)).mono ?_
                rintro e x3 ⟨rfl, hpk3, hbl3, hsz3⟩
                have HPk3 := Lib.hid hpk3
                have HBl3 := Lib.hid hbl3
                clear hpk3 hbl3
                go_wp2_with fail
                go_roundw
                case rel => exact ⟨trivial, k + 1, by go_num, by omega, (by rw [HTk.out, if_neg HPl.out]; have := HPk3.out; simpa [List.append_assoc] using this), HBl3.out, hsz3⟩
                case measure => simp [intOf]; omega
        · rw [hdig] at HD
          have HPl : Hid (plainName (S[k]'hlt) = true) := by unfold Hid plainName; rw [hdig]; simp
          clear hlet hdig
          go_wp2_with fail
          refine (HL.out _).mono ?_
          rintro e w2 ⟨rfl, rfl⟩
          go_wp2_with fail
          refine (HD.out _).mono ?_
          rintro e w2 ⟨rfl, rfl⟩
          go_wp2_with fail
          refine (HWB.out _ _ _ (S[k]'hlt) rfl HPk.out HBl.out hsz (by omega)).mono ?_
          rintro e x1 ⟨rfl, hpk1, hbl1, hsz1⟩
          have HPk1 := Lib.hid hpk1
          have HBl1 := Lib.hid hbl1
          clear hpk1 hbl1
          go_wp2_with fail
          go_roundw
          case rel => exact ⟨trivial, k + 1, by go_num, by omega, (by rw [HTk.out, if_pos HPl.out]; exact HPk1.out), HBl1.out, hsz1⟩
          case measure => simp [intOf]; omega
      · rw [hlet] at HL
        have HPl : Hid (plainName (S[k]'hlt) = true) := by unfold Hid plainName; rw [hlet]; simp
        clear hlet
        go_wp2_with fail
        refine (HL.out _).mono ?_
        rintro e w2 ⟨rfl, rfl⟩
        go_wp2_with fail
        refine (HWB.out _ _ _ (S[k]'hlt) rfl HPk.out HBl.out hsz (by omega)).mono ?_
        rintro e x1 ⟨rfl, hpk1, hbl1, hsz1⟩
        have HPk1 := Lib.hid hpk1
        have HBl1 := Lib.hid hbl1
        clear hpk1 hbl1
        go_wp2_with fail
        go_roundw
        case rel => exact ⟨trivial, k + 1, by go_num, by omega, (by rw [HTk.out, if_pos HPl.out]; exact HPk1.out), HBl1.out, hsz1⟩
        case measure => simp [intOf]; omega
    · have hk2 : k = S.size := by omega
      have HTk : Hid ((bys S).take k = l) := by unfold Hid; rw [List.take_of_length_le (by rw [bys_len]; omega), HB.out]
      have hi2 : ¬ (k : Int) < (S.size : Int) := by omega
      rw [HTk.out] at HPk
      obtain ⟨sv, hsv⟩ : ∃ sv : ByteArray, sv = ⟨(prName l).toArray⟩ := ⟨_, rfl⟩
      have HC : Hid (Calls Tryz.prog 46 #[.pointer (some ⟨w.heap.size, 0, none⟩)] wr fun e w' => e = .returned (.string sv) ∧ FrX (w.heap.size + 1) w.heap.size wr w') := by unfold Hid; rw [hsv]; exact pk_string HPk.out
      have HSv := Lib.hid hsv
      clear hlt hsv hk2
      go_wp2_with fail
      refine HC.out.mono ?_
      rintro e w2 ⟨rfl, hfx⟩
      have HF := Lib.hid (HBl.out.trans ((FrS.of_x (S := fun k => k = w.heap.size) hfx rfl).below (by omega) fun k e => by omega))
      clear hfx
      go_wp2_with fail
      refine bodyPost_ret (v := .string sv) (by simp [results, Tryz.results63, go_sem]) rfl ?_
      exact ⟨by rw [HSv.out], HF.out⟩
end Go.Proofs.YthbdhijkdldmoaaGreatDoor
namespace Go.Proofs.YthbdhijkdldmoaaGreatDoor
open Go.RowKit Tk
theorem prB_le (l : Tk.Src) (k : Nat) : ((l.take k).flatMap prByte).length ≤ 4 * k := by
  have := prText_le (l.take k)
  unfold prText at this
  rw [List.length_append, List.length_append, List.length_take] at this
  simp only [List.length_cons, List.length_nil] at this
  omega
set_option maxHeartbeats 8000000 in
theorem prText_any (l : Tk.Src) (w : World) (hl : l.length ≤ 100000) :
    Calls Tryz.prog 64 #[.string ⟨l.toArray⟩] w fun e w' => e = .returned (.string ⟨(prText l).toArray⟩) ∧ Below w.heap.size w w' := by
  obtain ⟨S, hS⟩ : ∃ S : ByteArray, S = ⟨l.toArray⟩ := ⟨_, rfl⟩
  rw [← hS]
  have hz : S.size = l.length := by rw [hS]; simp [ByteArray.size]
  have HB : Hid (bys S = l) := by unfold Hid; rw [hS]; simp [bys]
  have hs : S.size ≤ 100000 := by omega
  have hs0 : (S.size : Int) ≤ 100000 := by omega
  have hb1 := (Below.refl w.heap.size w).alloc (Nat.le_refl _) (.cells #[.pointer none, .slice none 0 0] 77)
  have hk1 : Pk (w.heap.size + 1) w.heap.size [] (w.alloc (.cells #[.pointer none, .slice none 0 0] 77)) := pk_fresh (Blk.new w _ _)
  have hs1 : w.heap.size + 1 ≤ (w.alloc (.cells #[.pointer none, .slice none 0 0] 77)).heap.size := by simp
  have HWB : Hid (∀ (W : World) (acc : Tk.Src) (v : Int) (c : UInt8), v = bt c → Pk (w.heap.size + 1) w.heap.size acc W → Below w.heap.size w W → w.heap.size + 1 ≤ W.heap.size → acc.length ≤ 1000000 → Calls Tryz.prog 43 #[.pointer (some ⟨w.heap.size, 0, none⟩), .int .u8 v] W fun e w' => e = .returned .nilIface ∧ Pk (w.heap.size + 1) w.heap.size (acc ++ [c]) w' ∧ Below w.heap.size w w' ∧ w.heap.size + 1 ≤ w'.heap.size) := fun W acc v c hv hp hb hz ha =>
    (pk_byte hp c v hv (by omega) hz).mono fun e w' h => ⟨h.1, h.2.1, hb.trans ((FrS.of_x (S := fun k => k = w.heap.size) h.2.2.1 rfl).below (by omega) fun k e => by omega), by have := h.2.2.1.size; omega⟩
  have HWS : Hid (∀ (W : World) (acc : Tk.Src) (t : ByteArray) (m : Tk.Src), t.data.toList = m → m ≠ [] → Pk (w.heap.size + 1) w.heap.size acc W → Below w.heap.size w W → w.heap.size + 1 ≤ W.heap.size → acc.length ≤ 1000000 → m.length ≤ 100 → Calls Tryz.prog 44 #[.pointer (some ⟨w.heap.size, 0, none⟩), .string t] W fun e w' => ∃ v, e = .returned v ∧ Pk (w.heap.size + 1) w.heap.size (acc ++ m) w' ∧ Below w.heap.size w w' ∧ w.heap.size + 1 ≤ w'.heap.size) := fun W acc t m hm hm0 hp hb hz ha hml =>
    (pk_write hp t (by have : t.size = m.length := by rw [← hm, Array.length_toList]; rfl
                       omega) hz (by rw [hm]; simp [hm0])).mono fun e w' h => ⟨_, h.1, by have := h.2.1; rw [hm] at this; exact this, hb.trans ((FrS.of_x (S := fun k => k = w.heap.size) h.2.2.1 rfl).below (by omega) fun k e => by omega), by have := h.2.2.1.size; omega⟩
  have HB1 := Lib.hid hb1
  have HK1 := Lib.hid hk1
  clear hS hz hb1 hk1
  go_enter Tryz.func64, Tryz.ntmps64
  go_wp2_with fail
  generalize w.alloc (.cells #[.pointer none, .slice none 0 0] 77) = w1 at *
  refine (HWB.out _ _ _ 40 rfl HK1.out HB1.out hs1 (by simp)).mono ?_
  rintro e w2 ⟨rfl, hk2, hb2, hs2⟩
  have HB2 := Lib.hid hb2
  have HK2 : Hid (Pk (w.heap.size + 1) w.heap.size [40] w2) := hk2
  clear hb2 hk2
  go_wp2_with fail
  go_loopw [9] (fun v9 wq => True ∧ ∃ (k : Nat), v9 = .int .i64 k ∧ k ≤ S.size ∧ Pk (w.heap.size + 1) w.heap.size ([40] ++ ((bys S).take k).flatMap prByte) wq ∧ Below w.heap.size w wq ∧ w.heap.size + 1 ≤ wq.heap.size) (fun v9 _ => S.size - (intOf v9).toNat)
  case atStart => exact ⟨trivial, 0, rfl, Nat.zero_le _, by rw [List.take_zero]; exact HK2.out, HB2.out, hs2⟩
  case round =>
    obtain ⟨-, k, rfl, hk, hpk, hbl, hsz⟩ := hrel
    have HPk := Lib.hid hpk
    have HBl := Lib.hid hbl
    clear hpk hbl
    by_cases hlt : k < S.size
    · have hi1 : (k : Int) < (S.size : Int) := by omega
      have hxn := (bt_nn (S[k]'hlt)).1
      have hxn2 := (bt_nn (S[k]'hlt)).2
      have HTk : Hid ([40] ++ ((bys S).take (k + 1)).flatMap prByte = ([40] ++ ((bys S).take k).flatMap prByte) ++ prByte (S[k]'hlt)) := by
        unfold Hid
        rw [take_byte S k hlt, List.flatMap_append]
        simp
      have hln : ([40] ++ ((bys S).take k).flatMap prByte).length ≤ 4 * k + 1 := by have := prB_le (bys S) k; rw [List.length_append, List.length_singleton]; omega
      generalize [40] ++ ((bys S).take k).flatMap prByte = acc at *
      by_cases h10 : S[k]'hlt = 10
      · have hx := h10
        have q10 : (((S[k]'hlt).toNat : Int) == 10) = true := by rw [hx]; rfl
        have q9 : (((S[k]'hlt).toNat : Int) == 9) = false := by rw [hx]; rfl
        have q40 : (((S[k]'hlt).toNat : Int) == 40) = false := by rw [hx]; rfl
        have q41 : (((S[k]'hlt).toNat : Int) == 41) = false := by rw [hx]; rfl
        have q92 : (((S[k]'hlt).toNat : Int) == 92) = false := by rw [hx]; rfl
        have HPb : Hid (prByte (S[k]'hlt) = [92, 110]) := by unfold Hid; rw [hx]; rfl
        clear hx h10
        go_wp2_with fail
        refine (HWS.out _ _ _ [92, 110] rfl (by simp) HPk.out HBl.out hsz (by omega) (by simp)).mono ?_
        rintro e x1 ⟨vv1, rfl, hpk1, hbl1, hsz1⟩
        have HPk1 := Lib.hid hpk1
        have HBl1 := Lib.hid hbl1
        clear hpk1 hbl1
        go_wp2_with fail
        go_roundw
        case rel => exact ⟨trivial, k + 1, by go_num, by omega, (by rw [HTk.out, HPb.out]; have := HPk1.out; simpa [List.append_assoc] using this), HBl1.out, hsz1⟩
        case measure => simp [intOf]; omega
      · by_cases h9 : S[k]'hlt = 9
        · have hx := h9
          have q10 : (((S[k]'hlt).toNat : Int) == 10) = false := by rw [hx]; rfl
          have q9 : (((S[k]'hlt).toNat : Int) == 9) = true := by rw [hx]; rfl
          have q40 : (((S[k]'hlt).toNat : Int) == 40) = false := by rw [hx]; rfl
          have q41 : (((S[k]'hlt).toNat : Int) == 41) = false := by rw [hx]; rfl
          have q92 : (((S[k]'hlt).toNat : Int) == 92) = false := by rw [hx]; rfl
          have HPb : Hid (prByte (S[k]'hlt) = [92, 116]) := by unfold Hid; rw [hx]; rfl
          clear hx h10 h9
          go_wp2_with fail
          refine (HWS.out _ _ _ [92, 116] rfl (by simp) HPk.out HBl.out hsz (by omega) (by simp)).mono ?_
          rintro e x1 ⟨vv1, rfl, hpk1, hbl1, hsz1⟩
          have HPk1 := Lib.hid hpk1
          have HBl1 := Lib.hid hbl1
          clear hpk1 hbl1
          go_wp2_with fail
          go_roundw
          case rel => exact ⟨trivial, k + 1, by go_num, by omega, (by rw [HTk.out, HPb.out]; have := HPk1.out; simpa [List.append_assoc] using this), HBl1.out, hsz1⟩
          case measure => simp [intOf]; omega
        · by_cases h40 : S[k]'hlt = 40
          · have hx := h40
            have q10 : (((S[k]'hlt).toNat : Int) == 10) = false := by rw [hx]; rfl
            have q9 : (((S[k]'hlt).toNat : Int) == 9) = false := by rw [hx]; rfl
            have q40 : (((S[k]'hlt).toNat : Int) == 40) = true := by rw [hx]; rfl
            have q41 : (((S[k]'hlt).toNat : Int) == 41) = false := by rw [hx]; rfl
            have q92 : (((S[k]'hlt).toNat : Int) == 92) = false := by rw [hx]; rfl
            have HPb : Hid (prByte (S[k]'hlt) = [92, S[k]'hlt]) := by unfold Hid; rw [hx]; rfl
            clear hx h10 h9 h40
            go_wp2_with fail
            refine (HWB.out _ _ _ 92 rfl HPk.out HBl.out hsz (by omega)).mono ?_
            rintro e x1 ⟨rfl, hpk1, hbl1, hsz1⟩
            have HPk1 := Lib.hid hpk1
            have HBl1 := Lib.hid hbl1
            clear hpk1 hbl1
            go_wp2_with fail
            refine (HWB.out _ _ _ (S[k]'hlt) rfl HPk1.out HBl1.out hsz1 (by simp only [List.length_append, List.length_cons, List.length_nil]; omega)).mono ?_
            rintro e x2 ⟨rfl, hpk2, hbl2, hsz2⟩
            have HPk2 := Lib.hid hpk2
            have HBl2 := Lib.hid hbl2
            clear hpk2 hbl2
            go_wp2_with fail
            go_roundw
            case rel => exact ⟨trivial, k + 1, by go_num, by omega, (by rw [HTk.out, HPb.out]; have := HPk2.out; simpa [List.append_assoc] using this), HBl2.out, hsz2⟩
            case measure => simp [intOf]; omega
          · by_cases h41 : S[k]'hlt = 41
            · have hx := h41
              have q10 : (((S[k]'hlt).toNat : Int) == 10) = false := by rw [hx]; rfl
              have q9 : (((S[k]'hlt).toNat : Int) == 9) = false := by rw [hx]; rfl
              have q40 : (((S[k]'hlt).toNat : Int) == 40) = false := by rw [hx]; rfl
              have q41 : (((S[k]'hlt).toNat : Int) == 41) = true := by rw [hx]; rfl
              have q92 : (((S[k]'hlt).toNat : Int) == 92) = false := by rw [hx]; rfl
              have HPb : Hid (prByte (S[k]'hlt) = [92, S[k]'hlt]) := by unfold Hid; rw [hx]; rfl
              clear hx h10 h9 h40 h41
              go_wp2_with fail
              refine (HWB.out _ _ _ 92 rfl HPk.out HBl.out hsz (by omega)).mono ?_
              rintro e x1 ⟨rfl, hpk1, hbl1, hsz1⟩
              have HPk1 := Lib.hid hpk1
              have HBl1 := Lib.hid hbl1
              clear hpk1 hbl1
              go_wp2_with fail
              refine (HWB.out _ _ _ (S[k]'hlt) rfl HPk1.out HBl1.out hsz1 (by simp only [List.length_append, List.length_cons, List.length_nil]; omega)).mono ?_
              rintro e x2 ⟨rfl, hpk2, hbl2, hsz2⟩
              have HPk2 := Lib.hid hpk2
              have HBl2 := Lib.hid hbl2
              clear hpk2 hbl2
              go_wp2_with fail
              go_roundw
              case rel => exact ⟨trivial, k + 1, by go_num, by omega, (by rw [HTk.out, HPb.out]; have := HPk2.out; simpa [List.append_assoc] using this), HBl2.out, hsz2⟩
              case measure => simp [intOf]; omega
            · by_cases h92 : S[k]'hlt = 92
              · have hx := h92
                have q10 : (((S[k]'hlt).toNat : Int) == 10) = false := by rw [hx]; rfl
                have q9 : (((S[k]'hlt).toNat : Int) == 9) = false := by rw [hx]; rfl
                have q40 : (((S[k]'hlt).toNat : Int) == 40) = false := by rw [hx]; rfl
                have q41 : (((S[k]'hlt).toNat : Int) == 41) = false := by rw [hx]; rfl
                have q92 : (((S[k]'hlt).toNat : Int) == 92) = true := by rw [hx]; rfl
                have HPb : Hid (prByte (S[k]'hlt) = [92, S[k]'hlt]) := by unfold Hid; rw [hx]; rfl
                clear hx h10 h9 h40 h41 h92
                go_wp2_with fail
                refine (HWB.out _ _ _ 92 rfl HPk.out HBl.out hsz (by omega)).mono ?_
                rintro e x1 ⟨rfl, hpk1, hbl1, hsz1⟩
                have HPk1 := Lib.hid hpk1
                have HBl1 := Lib.hid hbl1
                clear hpk1 hbl1
                go_wp2_with fail
                refine (HWB.out _ _ _ (S[k]'hlt) rfl HPk1.out HBl1.out hsz1 (by simp only [List.length_append, List.length_cons, List.length_nil]; omega)).mono ?_
                rintro e x2 ⟨rfl, hpk2, hbl2, hsz2⟩
                have HPk2 := Lib.hid hpk2
                have HBl2 := Lib.hid hbl2
                clear hpk2 hbl2
                go_wp2_with fail
                go_roundw
                case rel => exact ⟨trivial, k + 1, by go_num, by omega, (by rw [HTk.out, HPb.out]; have := HPk2.out; simpa [List.append_assoc] using this), HBl2.out, hsz2⟩
                case measure => simp [intOf]; omega
              · have q10 : (((S[k]'hlt).toNat : Int) == 10) = false := bt_ne (S[k]'hlt) 10 h10
                have q9 : (((S[k]'hlt).toNat : Int) == 9) = false := bt_ne (S[k]'hlt) 9 h9
                have q40 : (((S[k]'hlt).toNat : Int) == 40) = false := bt_ne (S[k]'hlt) 40 h40
                have q41 : (((S[k]'hlt).toNat : Int) == 41) = false := bt_ne (S[k]'hlt) 41 h41
                have q92 : (((S[k]'hlt).toNat : Int) == 92) = false := bt_ne (S[k]'hlt) 92 h92
                by_cases hlo : (S[k]'hlt) < 32
                · have b32 : (((S[k]'hlt).toNat : Int) < 32) := by have := UInt8.lt_iff_toNat_lt.1 hlo; have h32 : (32 : UInt8).toNat = 32 := rfl; omega
                  have HPb : Hid (prByte (S[k]'hlt) = [92, 120, hexC ((S[k]'hlt) >>> 4), hexC ((S[k]'hlt) &&& 15)]) := by
                    unfold Hid prByte
                    rw [if_neg (by simpa using h10), if_neg (by simpa using h9), if_neg (by simp [h40, h41, h92]), if_pos (by simp [hlo])]
                  have h16 : ((S[k]'hlt).toNat : Int) / 16 < 16 := by unfold bt at hxn2; omega
                  have h160 : (0 : Int) ≤ ((S[k]'hlt).toNat : Int) / 16 := by unfold bt at hxn; omega
                  clear hlo h10 h9 h40 h41 h92
                  go_wp2_with fail
                  refine (HWS.out _ _ _ [92, 120] rfl (by simp) HPk.out HBl.out hsz (by omega) (by simp)).mono ?_
                  rintro e x1 ⟨vv1, rfl, hpk1, hbl1, hsz1⟩
                  have HPk1 := Lib.hid hpk1
                  have HBl1 := Lib.hid hbl1
                  clear hpk1 hbl1
                  go_wp2_with fail
                  refine (HWB.out _ _ _ (hexC ((S[k]'hlt) >>> 4)) (dig_hi _ _) HPk1.out HBl1.out hsz1 (by simp only [List.length_append, List.length_cons, List.length_nil]; omega)).mono ?_
                  rintro e x2 ⟨rfl, hpk2, hbl2, hsz2⟩
                  have HPk2 := Lib.hid hpk2
                  have HBl2 := Lib.hid hbl2
                  clear hpk2 hbl2
                  go_wp2_with fail
                  refine (HWB.out _ _ _ (hexC ((S[k]'hlt) &&& 15)) (dig_lo _ _) HPk2.out HBl2.out hsz2 (by simp only [List.length_append, List.length_cons, List.length_nil]; omega)).mono ?_
                  rintro e x3 ⟨rfl, hpk3, hbl3, hsz3⟩
                  have HPk3 := Lib.hid hpk3
                  have HBl3 := Lib.hid hbl3
                  clear hpk3 hbl3
                  go_wp2_with fail
                  go_roundw
                  case rel => exact ⟨trivial, k + 1, by go_num, by omega, (by rw [HTk.out, HPb.out]; have := HPk3.out; simpa [List.append_assoc] using this), HBl3.out, hsz3⟩
                  case measure => simp [intOf]; omega
                · have hlo1 := hlo
                  clear hlo
                  have b32 : ¬ (((S[k]'hlt).toNat : Int) < 32) := fun e => hlo1 (UInt8.lt_iff_toNat_lt.2 (by have h32 : (32 : UInt8).toNat = 32 := rfl; omega))
                  by_cases hlo : 125 < (S[k]'hlt)
                  · have b125 : ((125 : Int) < ((S[k]'hlt).toNat : Int)) := by have := UInt8.lt_iff_toNat_lt.1 hlo; have h125 : (125 : UInt8).toNat = 125 := rfl; omega
                    have HPb : Hid (prByte (S[k]'hlt) = [92, 120, hexC ((S[k]'hlt) >>> 4), hexC ((S[k]'hlt) &&& 15)]) := by
                      unfold Hid prByte
                      rw [if_neg (by simpa using h10), if_neg (by simpa using h9), if_neg (by simp [h40, h41, h92]), if_pos (by simp [hlo])]
                    have h16 : ((S[k]'hlt).toNat : Int) / 16 < 16 := by unfold bt at hxn2; omega
                    have h160 : (0 : Int) ≤ ((S[k]'hlt).toNat : Int) / 16 := by unfold bt at hxn; omega
                    clear hlo h10 h9 h40 h41 h92 hlo1
                    go_wp2_with fail
                    refine (HWS.out _ _ _ [92, 120] rfl (by simp) HPk.out HBl.out hsz (by omega) (by simp)).mono ?_
                    rintro e x1 ⟨vv1, rfl, hpk1, hbl1, hsz1⟩
                    have HPk1 := Lib.hid hpk1
                    have HBl1 := Lib.hid hbl1
                    clear hpk1 hbl1
                    go_wp2_with fail
                    refine (HWB.out _ _ _ (hexC ((S[k]'hlt) >>> 4)) (dig_hi _ _) HPk1.out HBl1.out hsz1 (by simp only [List.length_append, List.length_cons, List.length_nil]; omega)).mono ?_
                    rintro e x2 ⟨rfl, hpk2, hbl2, hsz2⟩
                    have HPk2 := Lib.hid hpk2
                    have HBl2 := Lib.hid hbl2
                    clear hpk2 hbl2
                    go_wp2_with fail
                    refine (HWB.out _ _ _ (hexC ((S[k]'hlt) &&& 15)) (dig_lo _ _) HPk2.out HBl2.out hsz2 (by simp only [List.length_append, List.length_cons, List.length_nil]; omega)).mono ?_
                    rintro e x3 ⟨rfl, hpk3, hbl3, hsz3⟩
                    have HPk3 := Lib.hid hpk3
                    have HBl3 := Lib.hid hbl3
                    clear hpk3 hbl3
                    go_wp2_with fail
                    go_roundw
                    case rel => exact ⟨trivial, k + 1, by go_num, by omega, (by rw [HTk.out, HPb.out]; have := HPk3.out; simpa [List.append_assoc] using this), HBl3.out, hsz3⟩
                    case measure => simp [intOf]; omega
                  · have hlo2 := hlo
                    clear hlo
                    have b125 : ¬ ((125 : Int) < ((S[k]'hlt).toNat : Int)) := fun e => hlo2 (UInt8.lt_iff_toNat_lt.2 (by have h125 : (125 : UInt8).toNat = 125 := rfl; omega))
                    have HPb : Hid (prByte (S[k]'hlt) = [S[k]'hlt]) := by
                      unfold Hid prByte
                      rw [if_neg (by simpa using h10), if_neg (by simpa using h9), if_neg (by simp [h40, h41, h92]), if_neg (by simp [hlo1, hlo2])]
                    clear hlo1 hlo2 h10 h9 h40 h41 h92
                    go_wp2_with fail
                    refine (HWB.out _ _ _ (S[k]'hlt) rfl HPk.out HBl.out hsz (by omega)).mono ?_
                    rintro e x1 ⟨rfl, hpk1, hbl1, hsz1⟩
                    have HPk1 := Lib.hid hpk1
                    have HBl1 := Lib.hid hbl1
                    clear hpk1 hbl1
                    go_wp2_with fail
                    go_roundw
                    case rel => exact ⟨trivial, k + 1, by go_num, by omega, (by rw [HTk.out, HPb.out]; have := HPk1.out; simpa [List.append_assoc] using this), HBl1.out, hsz1⟩
                    case measure => simp [intOf]; omega
    · have hk2 : k = S.size := by omega
      have hln : ([40] ++ ((bys S).take k).flatMap prByte).length ≤ 4 * k + 1 := by have := prB_le (bys S) k; rw [List.length_append, List.length_singleton]; omega
      have HTk : Hid ((bys S).take k = l) := by unfold Hid; rw [List.take_of_length_le (by rw [bys_len]; omega), HB.out]
      have hi2 : ¬ (k : Int) < (S.size : Int) := by omega
      rw [HTk.out] at HPk hln
      obtain ⟨sv, hsv⟩ : ∃ sv : ByteArray, sv = ⟨(prText l).toArray⟩ := ⟨_, rfl⟩
      have HSv := Lib.hid hsv
      have HC : Hid (∀ W, Pk (w.heap.size + 1) w.heap.size (prText l) W → Calls Tryz.prog 46 #[.pointer (some ⟨w.heap.size, 0, none⟩)] W fun e w' => e = .returned (.string sv) ∧ FrX (w.heap.size + 1) w.heap.size W w') := fun W h => by rw [hsv]; exact pk_string h
      clear hlt hsv hk2
      go_wp2_with fail
      refine (HWB.out _ _ _ 41 rfl HPk.out HBl.out hsz (by omega)).mono ?_
      rintro e w3 ⟨rfl, hk3, hb3, hs3⟩
      have HB3 := Lib.hid hb3
      have HK3 : Hid (Pk (w.heap.size + 1) w.heap.size (prText l) w3) := hk3
      clear hb3 hk3
      go_wp2_with fail
      refine (HC.out _ HK3.out).mono ?_
      rintro e w4 ⟨rfl, hfx⟩
      have HF := Lib.hid (HB3.out.trans ((FrS.of_x (S := fun k => k = w.heap.size) hfx rfl).below (by omega) fun k e => by omega))
      clear hfx
      go_wp2_with fail
      refine bodyPost_ret (v := .string sv) (by simp [results, Tryz.results64, go_sem]) rfl ?_
      exact ⟨by rw [HSv.out], HF.out⟩
end Go.Proofs.YthbdhijkdldmoaaGreatDoor
namespace Go.Proofs.YthbdhijkdldmoaaGreatDoor
open Go.RowKit Tk
theorem index_none : ∀ (l : Tk.Src) (c : UInt8), (∀ x ∈ l, x ≠ c) → Lib.indexByte l c = -1
  | [], _, _ => rfl
  | b :: l, c, h => by
    rw [Lib.indexByte, if_neg (by simpa using h b (by simp)), index_none l c fun x hx => h x (by simp [hx]), if_pos (by decide)]
theorem str_empty (l : Tk.Src) (S : ByteArray) (h : S = ⟨l.toArray⟩) : S.toList.isEmpty = decide (l.length = 0) := by
  rw [Lib.toList_data, h]
  cases l <;> rfl
set_option maxRecDepth 100000 in
set_option maxHeartbeats 16000000 in
theorem check_ok (b : BTok) (h : VTok b) (a e : Int) (w : World) :
    Calls Tryz.prog 61 #[tokV b.kind b.int ⟨b.text.toArray⟩ a e] w fun r w' => r = .returned (.int .i64 0) ∧ Below w.heap.size w w' := by
  unfold tokV
  cases h with
  | int n h1 h2 =>
    dsimp only
    have g1 : ¬ n < -2147483647 := by omega
    have g2 : ¬ 2147483647 < n := by omega
    have g3 : decide (n < -2147483647) = false := decide_eq_false g1
    have g4 : decide (2147483647 < n) = false := decide_eq_false g2
    by_cases h0 : n = 0
    · subst h0
      go_enter Tryz.func61, Tryz.ntmps61
      go_wp2_with fail
      go_ret
      exact ⟨rfl, (Below.refl _ _).alloc (Nat.le_refl _) _⟩
    · have q0 : (n != 0) = true := by simpa using h0
      clear h0
      go_enter Tryz.func61, Tryz.ntmps61
      go_wp2_with fail
      go_ret
      exact ⟨rfl, (Below.refl _ _).alloc (Nat.le_refl _) _⟩
  | name s h0 h1 h2 =>
    obtain ⟨S, hS⟩ : ∃ S : ByteArray, S = ⟨s.toArray⟩ := ⟨_, rfl⟩
    have hz : S.size = s.length := by rw [hS, int_size]
    have he := str_empty s S hS
    dsimp only
    rw [← hS]
    rw [decide_eq_false (by simpa using h0)] at he
    have hI : Lib.indexByte S.data.toList 0 = -1 := by rw [hS]; exact index_none s 0 h2
    have HC : Hid (∀ W, Calls Tryz.prog 82 #[.string S, .int .u8 0] W fun e w' => e = .returned (.int .i64 (-1)) ∧ w' = W) := fun W => by
      have h := strings_IndexByte S 0 W
      rwa [show (0 : Int).toNat.toUInt8 = 0 from rfl, hI] at h
    have g1 : ¬ (31 : Int) < (S.size : Int) := by omega
    have he2 : (!S.toList.isEmpty) = true := by rw [he]; rfl
    clear hS hz hI h0 h1 h2
    go_enter Tryz.func61, Tryz.ntmps61
    go_wp2_with fail
    refine (HC.out _).mono ?_
    rintro e w2 ⟨rfl, rfl⟩
    go_wp2_with fail
    go_ret
    exact ⟨rfl, (Below.refl _ _).alloc (Nat.le_refl _) _⟩
  | text s h1 =>
    obtain ⟨S, hS⟩ : ∃ S : ByteArray, S = ⟨s.toArray⟩ := ⟨_, rfl⟩
    have hz : S.size = s.length := by rw [hS, int_size]
    have he := str_empty s S hS
    dsimp only
    rw [← hS]
    have g1 : ¬ (1024 : Int) < (S.size : Int) := by omega
    by_cases h0 : s.length = 0
    · rw [decide_eq_true h0] at he
      have he2 : (!S.toList.isEmpty) = false := by rw [he]; rfl
      clear hS hz h0 h1
      go_enter Tryz.func61, Tryz.ntmps61
      go_wp2_with fail
      go_ret
      exact ⟨rfl, (Below.refl _ _).alloc (Nat.le_refl _) _⟩
    · rw [decide_eq_false h0] at he
      have he2 : (!S.toList.isEmpty) = true := by rw [he]; rfl
      clear hS hz h0 h1
      go_enter Tryz.func61, Tryz.ntmps61
      go_wp2_with fail
      go_ret
      exact ⟨rfl, (Below.refl _ _).alloc (Nat.le_refl _) _⟩
  | ref n h1 h2 =>
    dsimp only
    have g1 : ¬ (n : Int) < 1 := by omega
    have g2 : ¬ 255 < (n : Int) := by omega
    have g3 : decide ((n : Int) < 1) = false := decide_eq_false g1
    have g4 : decide (255 < (n : Int)) = false := decide_eq_false g2
    have q0 : ((n : Int) != 0) = true := by rw [bne_iff_ne]; omega
    go_enter Tryz.func61, Tryz.ntmps61
    go_wp2_with fail
    go_ret
    exact ⟨rfl, (Below.refl _ _).alloc (Nat.le_refl _) _⟩
  | word s hw =>
    obtain ⟨S, hS⟩ : ∃ S : ByteArray, S = ⟨s.toArray⟩ := ⟨_, rfl⟩
    have hz : S.size = s.length := by rw [hS, int_size]
    have he := str_empty s S hS
    dsimp only
    rw [← hS]
    have hlen : s.length ≤ 31 := by obtain ⟨_, x, r, _, hl, _⟩ := word_ok hw; exact hl
    have h0 : s.length ≠ 0 := by obtain ⟨_, x, r, e, _⟩ := word_ok hw; rw [e]; simp
    rw [decide_eq_false h0] at he
    have he2 : (!S.toList.isEmpty) = true := by rw [he]; rfl
    have HC : Hid (∀ W, Calls Tryz.prog 83 #[.string S] W fun e w' => e = .returned (.tuple #[.string S, .int .i64 0]) ∧ W = w') := fun W => by
      have h := word_any s W (by omega)
      unfold wordR at h
      rw [hw] at h
      rw [hS]; exact h
    have g1 : ¬ (1024 : Int) < (S.size : Int) := by omega
    clear hS hz hlen h0 hw
    go_enter Tryz.func61, Tryz.ntmps61
    go_wp2_with fail
    refine (HC.out _).mono ?_
    rintro e w2 ⟨rfl, rfl⟩
    go_wp2_with fail
    go_ret
    exact ⟨rfl, (Below.refl _ _).alloc (Nat.le_refl _) _⟩
  | list =>
    dsimp only
    go_enter Tryz.func61, Tryz.ntmps61
    go_wp2_with fail
    go_ret
    exact ⟨rfl, (Below.refl _ _).alloc (Nat.le_refl _) _⟩
  | listEnd =>
    dsimp only
    go_enter Tryz.func61, Tryz.ntmps61
    go_wp2_with fail
    go_ret
    exact ⟨rfl, (Below.refl _ _).alloc (Nat.le_refl _) _⟩
  | dict =>
    dsimp only
    go_enter Tryz.func61, Tryz.ntmps61
    go_wp2_with fail
    go_ret
    exact ⟨rfl, (Below.refl _ _).alloc (Nat.le_refl _) _⟩
  | dictEnd =>
    dsimp only
    go_enter Tryz.func61, Tryz.ntmps61
    go_wp2_with fail
    go_ret
    exact ⟨rfl, (Below.refl _ _).alloc (Nat.le_refl _) _⟩
end Go.Proofs.YthbdhijkdldmoaaGreatDoor
namespace Go.Proofs.YthbdhijkdldmoaaGreatDoor
open Go.RowKit Tk Go.Lib Go.Joins
abbrev Tab10 (w : World) : Prop := Lib.TabIs Tryz.prog w "internal/strconv.uint64pow10" .u64 Lib.pow10Tab
theorem Tab10.later {w w' : World} (h : Tab10 w) (hb : Below w.heap.size w w') : Tab10 w' :=
  tab_stays (g := 5) (by kernel_rfl) h hb (Nat.le_refl _)
theorem itoa_any (n : Int) (h0 : -9223372036854775808 ≤ n) (h1 : n ≤ 9223372036854775807) (w : World) (hT : Tab10 w) : Calls Tryz.prog 62 #[.int .i64 n] w fun e w' => e = .returned (.string ⟨(Lib.itoa n).toArray⟩) ∧ Below w.heap.size w w' :=
  (strconv_Itoa n h0 h1 w hT).mono fun e w' ⟨a, k, os, b⟩ => ⟨a, by rw [b]; exact below_grow _ w (Nat.le_refl _) k os⟩
theorem cat_cons (c : UInt8) (l : Tk.Src) : (⟨#[c]⟩ : ByteArray) ++ ⟨l.toArray⟩ = ⟨(c :: l).toArray⟩ := by
  apply ByteArray.ext; simp [ByteArray.data_append]
set_option maxRecDepth 100000 in
set_option maxHeartbeats 16000000 in
theorem print_ok (b : BTok) (h : VTok b) (a e : Int) (w : World) (hT : Tab10 w) :
    Calls Tryz.prog 41 #[tokV b.kind b.int ⟨b.text.toArray⟩ a e] w fun r w' => r = .returned (.tuple #[.string ⟨(prTok b).toArray⟩, .int .i64 0]) ∧ Below w.heap.size w w' := by
  have HCk := Lib.hid fun W => check_ok b h a e W
  have HTa : Hid (∀ W, Below w.heap.size w W → Tab10 W) := fun W hb => Tab10.later hT hb
  have hb0 := Blk.new w 53 #[.int .i64 b.kind, .int .i64 b.int, .string ⟨b.text.toArray⟩, .int .i64 a, .int .i64 e]
  have hl0 := (Below.refl w.heap.size w).alloc (Nat.le_refl _) (.cells #[.int .i64 b.kind, .int .i64 b.int, .string ⟨b.text.toArray⟩, .int .i64 a, .int .i64 e] 53)
  have hz0 : (w.alloc (.cells #[.int .i64 b.kind, .int .i64 b.int, .string ⟨b.text.toArray⟩, .int .i64 a, .int .i64 e] 53)).heap.size = w.heap.size + 1 := by simp
  have HB0 := Lib.hid hb0
  have HL0 := Lib.hid hl0
  have HZ0 := Lib.hid hz0
  clear hb0 hl0 hz0 hT
  unfold tokV at HCk ⊢
  cases h with
  | int n h1 h2 =>
    dsimp only at HCk HB0 HL0 HZ0 ⊢
    have HP : Hid (prTok ⟨1, n, []⟩ = Lib.itoa n) := rfl
    generalize prTok ⟨1, n, []⟩ = P at *
    go_enter Tryz.func41, Tryz.ntmps41
    go_wp2_with fail
    generalize w.alloc (.cells #[.int .i64 (1), .int .i64 (n), .string ⟨#[]⟩, .int .i64 a, .int .i64 e] 53) = w0 at *
    refine (HCk.out _).mono ?_
    rintro e1 w1 ⟨rfl, hb1⟩
    have hb2 := HB0.out.below hb1 (by have := HZ0.out; omega)
    have HL1 := Lib.hid (HL0.out.trans (hb1.mono HL0.out.size))
    obtain ⟨t0, t1, t2, -, -⟩ := tok_cells hb2
    have tl := hb2.lt
    clear hb1 hb2
    go_wp2_with fail
    refine (itoa_any n (by omega) (by omega) _ (HTa.out _ HL1.out)).mono ?_
    rintro e2 w2 ⟨rfl, hb2⟩
    have HL2 := Lib.hid (HL1.out.trans (hb2.mono HL1.out.size))
    clear hb2
    go_wp2_with fail
    refine bodyPost_ret (v := .tuple #[.string ⟨(Lib.itoa n).toArray⟩, .int .i64 0]) (by simp [results, Tryz.results41, go_sem]) rfl ?_
    exact ⟨by rw [HP.out], HL2.out⟩
  | name s h0 h1 h2 =>
    dsimp only at HCk HB0 HL0 HZ0 ⊢
    obtain ⟨S, hS⟩ : ∃ S : ByteArray, S = ⟨s.toArray⟩ := ⟨_, rfl⟩
    rw [← hS] at HCk HB0 HL0 HZ0 ⊢
    have HS := Lib.hid hS
    have HP : Hid (prTok ⟨2, 0, s⟩ = 47 :: prName s) := rfl
    generalize prTok ⟨2, 0, s⟩ = P at *
    have HC : Hid (∀ W, Calls Tryz.prog 63 #[.string S] W fun e w' => e = .returned (.string ⟨(prName s).toArray⟩) ∧ Below W.heap.size W w') := fun W => by rw [hS]; exact prName_any s W (by omega)
    obtain ⟨V, hV⟩ : ∃ V : ByteArray, V = ⟨(prName s).toArray⟩ := ⟨_, rfl⟩
    rw [← hV] at HC
    have HV := Lib.hid hV
    have hVz : V.size ≤ 1000 := by rw [hV, int_size]; have := prName_le s; omega
    clear hS hV h0 h1 h2
    go_enter Tryz.func41, Tryz.ntmps41
    go_wp2_with fail
    generalize w.alloc (.cells #[.int .i64 (2), .int .i64 (0), .string S, .int .i64 a, .int .i64 e] 53) = w0 at *
    refine (HCk.out _).mono ?_
    rintro e1 w1 ⟨rfl, hb1⟩
    have hb2 := HB0.out.below hb1 (by have := HZ0.out; omega)
    have HL1 := Lib.hid (HL0.out.trans (hb1.mono HL0.out.size))
    obtain ⟨t0, t1, t2, -, -⟩ := tok_cells hb2
    have tl := hb2.lt
    clear hb1 hb2
    go_wp2_with fail
    refine (HC.out _).mono ?_
    rintro e2 w2 ⟨rfl, hb2⟩
    have HL2 := Lib.hid (HL1.out.trans (hb2.mono HL1.out.size))
    clear hb2
    go_wp2_with fail
    refine bodyPost_ret (v := .tuple #[.string (⟨#[47]⟩ ++ V), .int .i64 0]) (by simp [results, Tryz.results41, go_sem]) rfl ?_
    exact ⟨by rw [HP.out, HV.out, cat_cons], HL2.out⟩
  | text s h1 =>
    dsimp only at HCk HB0 HL0 HZ0 ⊢
    obtain ⟨S, hS⟩ : ∃ S : ByteArray, S = ⟨s.toArray⟩ := ⟨_, rfl⟩
    rw [← hS] at HCk HB0 HL0 HZ0 ⊢
    have HS := Lib.hid hS
    have HP : Hid (prTok ⟨3, 0, s⟩ = prText s) := rfl
    generalize prTok ⟨3, 0, s⟩ = P at *
    have HC : Hid (∀ W, Calls Tryz.prog 64 #[.string S] W fun e w' => e = .returned (.string ⟨(prText s).toArray⟩) ∧ Below W.heap.size W w') := fun W => by rw [hS]; exact prText_any s W (by omega)
    obtain ⟨V, hV⟩ : ∃ V : ByteArray, V = ⟨(prText s).toArray⟩ := ⟨_, rfl⟩
    rw [← hV] at HC
    have HV := Lib.hid hV
    clear hS hV h1
    go_enter Tryz.func41, Tryz.ntmps41
    go_wp2_with fail
    generalize w.alloc (.cells #[.int .i64 (3), .int .i64 (0), .string S, .int .i64 a, .int .i64 e] 53) = w0 at *
    refine (HCk.out _).mono ?_
    rintro e1 w1 ⟨rfl, hb1⟩
    have hb2 := HB0.out.below hb1 (by have := HZ0.out; omega)
    have HL1 := Lib.hid (HL0.out.trans (hb1.mono HL0.out.size))
    obtain ⟨t0, t1, t2, -, -⟩ := tok_cells hb2
    have tl := hb2.lt
    clear hb1 hb2
    go_wp2_with fail
    refine (HC.out _).mono ?_
    rintro e2 w2 ⟨rfl, hb2⟩
    have HL2 := Lib.hid (HL1.out.trans (hb2.mono HL1.out.size))
    clear hb2
    go_wp2_with fail
    refine bodyPost_ret (v := .tuple #[.string V, .int .i64 0]) (by simp [results, Tryz.results41, go_sem]) rfl ?_
    exact ⟨by rw [HP.out, HV.out], HL2.out⟩
  | ref n h1 h2 =>
    dsimp only at HCk HB0 HL0 HZ0 ⊢
    have HP : Hid (prTok ⟨4, n, []⟩ = 64 :: Lib.itoa n) := rfl
    generalize prTok ⟨4, n, []⟩ = P at *
    obtain ⟨V, hV⟩ : ∃ V : ByteArray, V = ⟨(Lib.itoa (n : Int)).toArray⟩ := ⟨_, rfl⟩
    have HI : Hid (∀ W, Tab10 W → Calls Tryz.prog 62 #[.int .i64 (n : Int)] W fun e w' => e = .returned (.string V) ∧ Below W.heap.size W w') := fun W h => by rw [hV]; exact itoa_any n (by omega) (by omega) W h
    have HV := Lib.hid hV
    have hVz : V.size ≤ 1000 := by rw [hV, int_size, itoa_nat]; have := dec_len 3 n (by omega); omega
    clear hV
    go_enter Tryz.func41, Tryz.ntmps41
    go_wp2_with fail
    generalize w.alloc (.cells #[.int .i64 (4), .int .i64 (n : Int), .string ⟨#[]⟩, .int .i64 a, .int .i64 e] 53) = w0 at *
    refine (HCk.out _).mono ?_
    rintro e1 w1 ⟨rfl, hb1⟩
    have hb2 := HB0.out.below hb1 (by have := HZ0.out; omega)
    have HL1 := Lib.hid (HL0.out.trans (hb1.mono HL0.out.size))
    obtain ⟨t0, t1, t2, -, -⟩ := tok_cells hb2
    have tl := hb2.lt
    clear hb1 hb2
    go_wp2_with fail
    refine (HI.out _ (HTa.out _ HL1.out)).mono ?_
    rintro e2 w2 ⟨rfl, hb2⟩
    have HL2 := Lib.hid (HL1.out.trans (hb2.mono HL1.out.size))
    clear hb2
    go_wp2_with fail
    refine bodyPost_ret (v := .tuple #[.string (⟨#[64]⟩ ++ V), .int .i64 0]) (by simp [results, Tryz.results41, go_sem]) rfl ?_
    exact ⟨by rw [HP.out, HV.out, cat_cons], HL2.out⟩
  | word s hw =>
    dsimp only at HCk HB0 HL0 HZ0 ⊢
    obtain ⟨S, hS⟩ : ∃ S : ByteArray, S = ⟨s.toArray⟩ := ⟨_, rfl⟩
    rw [← hS] at HCk HB0 HL0 HZ0 ⊢
    have HS := Lib.hid hS
    have HP : Hid (prTok ⟨5, 0, s⟩ = s) := rfl
    generalize prTok ⟨5, 0, s⟩ = P at *
    clear hS hw
    go_enter Tryz.func41, Tryz.ntmps41
    go_wp2_with fail
    generalize w.alloc (.cells #[.int .i64 (5), .int .i64 (0), .string S, .int .i64 a, .int .i64 e] 53) = w0 at *
    refine (HCk.out _).mono ?_
    rintro e1 w1 ⟨rfl, hb1⟩
    have hb2 := HB0.out.below hb1 (by have := HZ0.out; omega)
    have HL1 := Lib.hid (HL0.out.trans (hb1.mono HL0.out.size))
    obtain ⟨t0, t1, t2, -, -⟩ := tok_cells hb2
    have tl := hb2.lt
    clear hb1 hb2
    go_wp2_with fail
    refine bodyPost_ret (v := .tuple #[.string S, .int .i64 0]) (by simp [results, Tryz.results41, go_sem]) rfl ?_
    exact ⟨by rw [HP.out, HS.out], HL1.out⟩
  | list =>
    dsimp only at HCk HB0 HL0 HZ0 ⊢
    have HP : Hid (prTok ⟨6, 0, []⟩ = [91]) := rfl
    generalize prTok ⟨6, 0, []⟩ = P at *
    go_enter Tryz.func41, Tryz.ntmps41
    go_wp2_with fail
    generalize w.alloc (.cells #[.int .i64 (6), .int .i64 (0), .string ⟨#[]⟩, .int .i64 a, .int .i64 e] 53) = w0 at *
    refine (HCk.out _).mono ?_
    rintro e1 w1 ⟨rfl, hb1⟩
    have hb2 := HB0.out.below hb1 (by have := HZ0.out; omega)
    have HL1 := Lib.hid (HL0.out.trans (hb1.mono HL0.out.size))
    obtain ⟨t0, t1, t2, -, -⟩ := tok_cells hb2
    have tl := hb2.lt
    clear hb1 hb2
    go_wp2_with fail
    refine bodyPost_ret (v := .tuple #[.string ⟨#[91]⟩, .int .i64 0]) (by simp [results, Tryz.results41, go_sem]) rfl ?_
    exact ⟨by rw [HP.out], (HL1.out.alloc HL1.out.size _)⟩
  | listEnd =>
    dsimp only at HCk HB0 HL0 HZ0 ⊢
    have HP : Hid (prTok ⟨7, 0, []⟩ = [93]) := rfl
    generalize prTok ⟨7, 0, []⟩ = P at *
    go_enter Tryz.func41, Tryz.ntmps41
    go_wp2_with fail
    generalize w.alloc (.cells #[.int .i64 (7), .int .i64 (0), .string ⟨#[]⟩, .int .i64 a, .int .i64 e] 53) = w0 at *
    refine (HCk.out _).mono ?_
    rintro e1 w1 ⟨rfl, hb1⟩
    have hb2 := HB0.out.below hb1 (by have := HZ0.out; omega)
    have HL1 := Lib.hid (HL0.out.trans (hb1.mono HL0.out.size))
    obtain ⟨t0, t1, t2, -, -⟩ := tok_cells hb2
    have tl := hb2.lt
    clear hb1 hb2
    go_wp2_with fail
    refine bodyPost_ret (v := .tuple #[.string ⟨#[93]⟩, .int .i64 0]) (by simp [results, Tryz.results41, go_sem]) rfl ?_
    exact ⟨by rw [HP.out], (HL1.out.alloc HL1.out.size _)⟩
  | dict =>
    dsimp only at HCk HB0 HL0 HZ0 ⊢
    have HP : Hid (prTok ⟨8, 0, []⟩ = [60, 60]) := rfl
    generalize prTok ⟨8, 0, []⟩ = P at *
    go_enter Tryz.func41, Tryz.ntmps41
    go_wp2_with fail
    generalize w.alloc (.cells #[.int .i64 (8), .int .i64 (0), .string ⟨#[]⟩, .int .i64 a, .int .i64 e] 53) = w0 at *
    refine (HCk.out _).mono ?_
    rintro e1 w1 ⟨rfl, hb1⟩
    have hb2 := HB0.out.below hb1 (by have := HZ0.out; omega)
    have HL1 := Lib.hid (HL0.out.trans (hb1.mono HL0.out.size))
    obtain ⟨t0, t1, t2, -, -⟩ := tok_cells hb2
    have tl := hb2.lt
    clear hb1 hb2
    go_wp2_with fail
    refine bodyPost_ret (v := .tuple #[.string ⟨#[60, 60]⟩, .int .i64 0]) (by simp [results, Tryz.results41, go_sem]) rfl ?_
    exact ⟨by rw [HP.out], (HL1.out.alloc HL1.out.size _)⟩
  | dictEnd =>
    dsimp only at HCk HB0 HL0 HZ0 ⊢
    have HP : Hid (prTok ⟨9, 0, []⟩ = [62, 62]) := rfl
    generalize prTok ⟨9, 0, []⟩ = P at *
    go_enter Tryz.func41, Tryz.ntmps41
    go_wp2_with fail
    generalize w.alloc (.cells #[.int .i64 (9), .int .i64 (0), .string ⟨#[]⟩, .int .i64 a, .int .i64 e] 53) = w0 at *
    refine (HCk.out _).mono ?_
    rintro e1 w1 ⟨rfl, hb1⟩
    have hb2 := HB0.out.below hb1 (by have := HZ0.out; omega)
    have HL1 := Lib.hid (HL0.out.trans (hb1.mono HL0.out.size))
    obtain ⟨t0, t1, t2, -, -⟩ := tok_cells hb2
    have tl := hb2.lt
    clear hb1 hb2
    go_wp2_with fail
    refine bodyPost_ret (v := .tuple #[.string ⟨#[62, 62]⟩, .int .i64 0]) (by simp [results, Tryz.results41, go_sem]) rfl ?_
    exact ⟨by rw [HP.out], (HL1.out.alloc HL1.out.size _)⟩
end Go.Proofs.YthbdhijkdldmoaaGreatDoor
namespace Go.Proofs.YthbdhijkdldmoaaGreatDoor
open Go.RowKit Tk Ob Go.Lib Go.Joins
/-- A token of one of the four kinds that a leaf's value makes. -/
inductive LTok : BTok → Prop
  | int (n : Int) : LTok ⟨1, n, []⟩
  | name (s : Tk.Src) : LTok ⟨2, 0, s⟩
  | text (s : Tk.Src) : LTok ⟨3, 0, s⟩
  | ref (n : Int) : LTok ⟨4, n, []⟩
theorem index_some : ∀ (l : Tk.Src) (c : UInt8), c ∈ l → 0 ≤ Lib.indexByte l c
  | [], c, h => by cases h
  | b :: l, c, h => by
    rw [Lib.indexByte]
    split
    · omega
    · rename_i hb
      have : c ∈ l := by
        rcases List.mem_cons.1 h with rfl | h
        · exact absurd (by simp) hb
        · exact h
      have := index_some l c this
      rw [if_neg (by simp; omega)]; omega
def BadPost (b : BTok) (w : World) (r : Ending) (w' : World) : Prop := r = .returned (.int .i64 (tokE b)) ∧ Below w.heap.size w w'
theorem bad_close {b : BTok} {n : Int} {w w' : World} (h : tokE b = n) (hb : Below w.heap.size w w') : BadPost b w (.returned (.int .i64 n)) w' := ⟨by rw [h], hb⟩
set_option maxRecDepth 100000 in
set_option maxHeartbeats 16000000 in
theorem check_bad (b : BTok) (hl : LTok b) (hbad : tokE b ≠ 0) (a e : Int) (w : World) :
    Calls Tryz.prog 61 #[tokV b.kind b.int ⟨b.text.toArray⟩ a e] w (BadPost b w) := by
  unfold tokV
  cases hl with
  | int n =>
    have hT : Hid (tokE ⟨1, n, []⟩ = 3) := by
      unfold Hid
      have : tokE ⟨1, n, []⟩ = if n < -2147483647 ∨ 2147483647 < n then 3 else 0 := rfl
      rw [this] at hbad ⊢
      split at hbad
      · rename_i h; rw [if_pos h]
      · exact absurd rfl hbad
    have hr : n < -2147483647 ∨ 2147483647 < n := by
      have : tokE ⟨1, n, []⟩ = if n < -2147483647 ∨ 2147483647 < n then 3 else 0 := rfl
      rw [this] at hbad
      exact Classical.byContradiction fun h => hbad (if_neg h)
    have q0 : (n != 0) = true := by have : n ≠ 0 := by omega
                                    simpa using this
    clear hbad
    dsimp only
    rcases hr with hr | hr
    · have g3 : decide (n < -2147483647) = true := decide_eq_true hr
      go_enter Tryz.func61, Tryz.ntmps61
      go_wp2_with fail
      go_ret
      exact bad_close hT.out ((Below.refl _ _).alloc (Nat.le_refl _) _)
    · have g1 : ¬ n < -2147483647 := by omega
      have g3 : decide (n < -2147483647) = false := decide_eq_false g1
      have g4 : decide (2147483647 < n) = true := decide_eq_true hr
      go_enter Tryz.func61, Tryz.ntmps61
      go_wp2_with fail
      go_ret
      exact bad_close hT.out ((Below.refl _ _).alloc (Nat.le_refl _) _)
  | name s =>
    obtain ⟨S, hS⟩ : ∃ S : ByteArray, S = ⟨s.toArray⟩ := ⟨_, rfl⟩
    have hz : S.size = s.length := by rw [hS, int_size]
    have he := str_empty s S hS
    have hE : tokE ⟨2, 0, s⟩ = nameE s := rfl
    rw [hE] at hbad
    dsimp only
    rw [← hS]
    by_cases h0 : s.length = 0
    · have hT : Hid (tokE ⟨2, 0, s⟩ = 4) := by unfold Hid; rw [hE]; unfold nameE; rw [if_pos (.inl h0)]
      rw [decide_eq_true h0] at he
      have he2 : (!S.toList.isEmpty) = false := by rw [he]; rfl
      have hz0 : S.toList = [] := List.isEmpty_iff.1 he
      clear hS hz hbad hE
      go_enter Tryz.func61, Tryz.ntmps61
      go_wp2_with fail
      go_ret
      exact bad_close hT.out ((Below.refl _ _).alloc (Nat.le_refl _) _)
    · rw [decide_eq_false h0] at he
      have he2 : (!S.toList.isEmpty) = true := by rw [he]; rfl
      by_cases h1 : s.any (· == 0) = true
      · have hT : Hid (tokE ⟨2, 0, s⟩ = 4) := by unfold Hid; rw [hE]; unfold nameE; rw [if_pos (.inr h1)]
        have hm : (0 : UInt8) ∈ s := by
          rw [List.any_eq_true] at h1
          obtain ⟨x, hx, h2⟩ := h1
          have : x = 0 := by simpa using h2
          rwa [this] at hx
        have hI := index_some s 0 hm
        obtain ⟨j, hj⟩ : ∃ j, j = Lib.indexByte s 0 := ⟨_, rfl⟩
        have HC : Hid (∀ W, Calls Tryz.prog 82 #[.string S, .int .u8 0] W fun e w' => e = .returned (.int .i64 j) ∧ w' = W) := fun W => by
          have h := strings_IndexByte S 0 W
          rwa [show (0 : Int).toNat.toUInt8 = 0 from rfl, show S.data.toList = s by rw [hS], ← hj] at h
        rw [← hj] at hI
        have hI2 : ¬ j < 0 := by omega
        clear hS hz hbad hE hj h0 h1 hm
        go_enter Tryz.func61, Tryz.ntmps61
        go_wp2_with fail
        refine (HC.out _).mono ?_
        rintro e w2 ⟨rfl, rfl⟩
        go_wp2_with fail
        go_ret
        exact bad_close hT.out ((Below.refl _ _).alloc (Nat.le_refl _) _)
      · have h31 : 31 < s.length := by
          unfold nameE at hbad
          rw [if_neg (by intro h; rcases h with h | h; exact h0 h; exact h1 h)] at hbad
          exact Classical.byContradiction fun h => hbad (if_neg h)
        have hT : Hid (tokE ⟨2, 0, s⟩ = 2) := by unfold Hid; rw [hE]; unfold nameE; rw [if_neg (by intro h; rcases h with h | h; exact h0 h; exact h1 h), if_pos h31]
        have hI : Lib.indexByte S.data.toList 0 = -1 := by
          rw [hS]; refine index_none s 0 fun x hx e => h1 ?_
          rw [List.any_eq_true]; exact ⟨x, hx, by simp [e]⟩
        have HC : Hid (∀ W, Calls Tryz.prog 82 #[.string S, .int .u8 0] W fun e w' => e = .returned (.int .i64 (-1)) ∧ w' = W) := fun W => by
          have h := strings_IndexByte S 0 W
          rwa [show (0 : Int).toNat.toUInt8 = 0 from rfl, hI] at h
        have g1 : (31 : Int) < (S.size : Int) := by omega
        clear hS hz hI h0 h1 hbad hE h31
        go_enter Tryz.func61, Tryz.ntmps61
        go_wp2_with fail
        refine (HC.out _).mono ?_
        rintro e w2 ⟨rfl, rfl⟩
        go_wp2_with fail
        go_ret
        exact bad_close hT.out ((Below.refl _ _).alloc (Nat.le_refl _) _)
  | text s =>
    obtain ⟨S, hS⟩ : ∃ S : ByteArray, S = ⟨s.toArray⟩ := ⟨_, rfl⟩
    have hz : S.size = s.length := by rw [hS, int_size]
    have he := str_empty s S hS
    have hE : tokE ⟨3, 0, s⟩ = if 1024 < s.length then 2 else 0 := rfl
    have hl : 1024 < s.length := by
      rw [hE] at hbad
      exact Classical.byContradiction fun h => hbad (if_neg h)
    have hT : Hid (tokE ⟨3, 0, s⟩ = 2) := by unfold Hid; rw [hE, if_pos hl]
    rw [decide_eq_false (by omega)] at he
    have he2 : (!S.toList.isEmpty) = true := by rw [he]; rfl
    have g1 : (1024 : Int) < (S.size : Int) := by omega
    have g2 : decide ((1024 : Int) < (S.size : Int)) = true := decide_eq_true g1
    dsimp only
    rw [← hS]
    clear hS hz hbad hE hl
    go_enter Tryz.func61, Tryz.ntmps61
    go_wp2_with fail
    go_ret
    exact bad_close hT.out ((Below.refl _ _).alloc (Nat.le_refl _) _)
  | ref n =>
    have hE : tokE ⟨4, n, []⟩ = if n < 1 ∨ 255 < n then 3 else 0 := rfl
    have hr : n < 1 ∨ 255 < n := by
      rw [hE] at hbad
      exact Classical.byContradiction fun h => hbad (if_neg h)
    have hT : Hid (tokE ⟨4, n, []⟩ = 3) := by unfold Hid; rw [hE, if_pos hr]
    clear hbad hE
    dsimp only
    by_cases h0 : n = 0
    · subst h0
      clear hr
      go_enter Tryz.func61, Tryz.ntmps61
      go_wp2_with fail
      go_ret
      exact bad_close hT.out ((Below.refl _ _).alloc (Nat.le_refl _) _)
    have q0 : (n != 0) = true := by simpa using h0
    clear h0
    rcases hr with hr | hr
    · have g3 : decide (n < 1) = true := decide_eq_true hr
      have g5 : n ≤ 0 := by omega
      go_enter Tryz.func61, Tryz.ntmps61
      go_wp2_with fail
      go_ret
      exact bad_close hT.out ((Below.refl _ _).alloc (Nat.le_refl _) _)
    · have g1 : ¬ n < 1 := by omega
      have g5 : ¬ n ≤ 0 := by omega
      have g3 : decide (n < 1) = false := decide_eq_false g1
      have g4 : decide (255 < n) = true := decide_eq_true hr
      go_enter Tryz.func61, Tryz.ntmps61
      go_wp2_with fail
      go_ret
      exact bad_close hT.out ((Below.refl _ _).alloc (Nat.le_refl _) _)
set_option maxRecDepth 100000 in
set_option maxHeartbeats 16000000 in
theorem print_bad (b : BTok) (hl : LTok b) (hbad : tokE b ≠ 0) (a e : Int) (w : World) :
    Calls Tryz.prog 41 #[tokV b.kind b.int ⟨b.text.toArray⟩ a e] w fun r w' => r = .returned (.tuple #[.string ⟨#[]⟩, .int .i64 (tokE b)]) ∧ Below w.heap.size w w' := by
  have HCk := Lib.hid fun W => check_bad b hl hbad a e W
  have hl0 := (Below.refl w.heap.size w).alloc (Nat.le_refl _) (.cells #[.int .i64 b.kind, .int .i64 b.int, .string ⟨b.text.toArray⟩, .int .i64 a, .int .i64 e] 53)
  have HL0 := Lib.hid hl0
  unfold tokV at HCk ⊢
  have he2 : (tokE b == 0) = false := by simpa using hbad
  have he3 : (tokE b != 0) = true := by simpa using hbad
  have HE : Hid (∀ W r w', BadPost b W r w' → r = .returned (.int .i64 (tokE b)) ∧ Below W.heap.size W w') := fun _ _ _ h => h
  generalize tokE b = E at *
  obtain ⟨S, hS⟩ : ∃ S : ByteArray, S = ⟨b.text.toArray⟩ := ⟨_, rfl⟩
  rw [← hS] at HCk HL0 ⊢
  clear hbad hl0 hl hS
  generalize b.kind = k at *
  generalize b.int = i at *
  go_enter Tryz.func41, Tryz.ntmps41
  go_wp2_with fail
  refine (HCk.out _).mono ?_
  intro e1 w1 h1
  obtain ⟨rfl, hb1⟩ := HE.out _ _ _ h1
  have HL1 := Lib.hid (HL0.out.trans (hb1.mono HL0.out.size))
  clear hb1 h1
  go_wp2_with fail
  refine bodyPost_ret (v := .tuple #[.string ⟨#[]⟩, .int .i64 E]) (by simp [results, Tryz.results41, go_sem]) rfl ?_
  exact ⟨rfl, HL1.out⟩
end Go.Proofs.YthbdhijkdldmoaaGreatDoor
