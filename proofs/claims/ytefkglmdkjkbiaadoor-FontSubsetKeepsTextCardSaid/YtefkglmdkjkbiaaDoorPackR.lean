/- A packer of a call's own, and the walk of put. -/
import Derived.Test.YtefkglmdkjkbiaaDoorBuilderR
import Derived.Test.YtefkglmdkjkbiaaDoorFntCheck
import Derived.Deep.QuietTactic
import Derived.RegionTactic
import Derived.Deep.RegionWith
import Derived.StillTailTactics
import Derived.BigRegion
import Derived.Lib.UnsafeStr
namespace Go.Proofs.YtefkglmdkjkbiaaDoor
open Go.RowKit Fnt
theorem byteCells_append (a b : List UInt8) : Lib.byteCells (a ++ b) = Lib.byteCells a ++ Lib.byteCells b := by simp [Lib.byteCells]
theorem strCells_of (l : List UInt8) : Lib.strCells ⟨l.toArray⟩ = Lib.byteCells l := by simp [Lib.strCells, Lib.byteCells]
/-- A packer in block b, whose bytes lie from block R on, holding l. -/
def Pk (R b : Nat) (l : List UInt8) (w : World) : Prop := (PB R b (.pointer none) (Lib.byteCells l) w ∨ PB R b (.pointer (some ⟨b, 0, none⟩)) (Lib.byteCells l) w) ∧ (l = [] → ∃ p, Blk w b 146 #[p, .slice none 0 0])
theorem pk_fresh {R b : Nat} {w : World} (h : Blk w b 146 #[.pointer none, .slice none 0 0]) : Pk R b [] w := ⟨.inl ⟨_, h, World.ownsRow_nil _ _ _ _, by simp [Value.ownBlock]⟩, fun _ => ⟨_, h⟩⟩
theorem PB.keep {R b : Nat} {p : Value} {bs : List Value} {w w' : World} (h : PB R b p bs w) (hk : ∀ k, k < w.heap.size → (k = b ∨ R ≤ k) → w'.heap[k]? = w.heap[k]?) : PB R b p bs w' := by
  obtain ⟨v, hbk, hown, hne⟩ := h
  refine ⟨v, (hk b hbk.lt (.inl rfl)).trans hbk, ?_, hne⟩
  rcases hown with ⟨hl, h⟩
  refine ⟨hl, ?_⟩
  rcases h with h | ⟨g, cap, cur, hv, hg, hh, r⟩
  · exact .inl h
  · refine .inr ⟨g, cap, cur, hv, hg, ?_, r⟩
    rw [hk g ?_ (.inr hg)]; exact hh
    rcases Nat.lt_or_ge g w.heap.size with h | h
    · exact h
    · rw [Array.getElem?_eq_none h] at hh; cases hh
theorem pk_keep {R b : Nat} {l : List UInt8} {w w' : World} (h : Pk R b l w) (hk : ∀ k, k < w.heap.size → (k = b ∨ R ≤ k) → w'.heap[k]? = w.heap[k]?) : Pk R b l w' := by
  obtain ⟨h, h2⟩ := h
  refine ⟨?_, fun e => ?_⟩
  · rcases h with h | h
    · exact .inl (h.keep hk)
    · exact .inr (h.keep hk)
  · obtain ⟨p, hb⟩ := h2 e
    exact ⟨p, (hk b hb.lt (.inl rfl)).trans hb⟩
theorem pk_below {R b : Nat} {l : List UInt8} {w w' : World} (h : Pk R b l w) (hb : Below w.heap.size w w') : Pk R b l w' := pk_keep h (fun k hk _ => hb.block k hk)
/-- Another packer's writing leaves this one. -/
theorem pk_other {R R' b b' : Nat} {l : List UInt8} {w w' : World} (h : Pk R b l w) (hf : FrX R' b' w w') (hR : w.heap.size ≤ R') (hb : b' ≠ b) (hb2 : b' < R) : Pk R b l w' :=
  pk_keep h (fun k hk h2 => hf.block k (by omega) (by rcases h2 with h2 | h2 <;> omega))
theorem pk_byte {R b : Nat} {l : List UInt8} {w : World} (h : Pk R b l w) (c : UInt8) (v : Int) (hv : v = (c.toNat : Int)) (hl : l.length ≤ 10000000) (hB : R ≤ w.heap.size) :
    Calls Tryd.prog 91 #[.pointer (some ⟨b, 0, none⟩), .int .u8 v] w fun e w' => e = .returned .nilIface ∧ Pk R b (l ++ [c]) w' ∧ FrX R b w w' ∧ KeepB b w w' := by
  subst hv
  refine (Builder_WriteByte R b _ _ w h.1 ?_ hB).mono ?_
  · rw [Lib.byteCells_length]; omega
  · rintro e w' ⟨rfl, ⟨h1, h2⟩, h3⟩
    refine ⟨rfl, ?_, h2, h3⟩
    rw [show [Value.int .u8 (c.toNat : Int)] = Lib.byteCells [c] from rfl, ← byteCells_append] at h1
    exact ⟨.inr h1, fun e => by simp at e⟩
theorem pk_write {R b : Nat} {l : List UInt8} {w : World} (h : Pk R b l w) (t : ByteArray) (hl : l.length + t.size ≤ 10000000) (hB : R ≤ w.heap.size) (hne : l ++ t.data.toList ≠ []) :
    Calls Tryd.prog 70 #[.pointer (some ⟨b, 0, none⟩), .string t] w fun e w' => e = .returned (.tuple #[.int .i64 t.size, .nilIface]) ∧ Pk R b (l ++ t.data.toList) w' ∧ FrX R b w w' ∧ KeepB b w w' := by
  refine (Builder_WriteString R b _ t w h.1 ?_ hB).mono ?_
  · rw [Lib.byteCells_length]; omega
  · rintro e w' ⟨rfl, ⟨h1, h2⟩, h3⟩
    refine ⟨rfl, ?_, h2, h3⟩
    rw [show Lib.strCells t = Lib.byteCells t.data.toList from strCells_of t.data.toList, ← byteCells_append] at h1
    exact ⟨.inr h1, fun e => absurd e hne⟩
/-- The first m bytes of a number of k bytes. -/
def bePre (k : Nat) (n : Int) (m : Nat) : List UInt8 := (List.range m).map fun i => UInt8.ofNat (n / 2 ^ (8 * (k - 1 - i)) % 256).toNat
theorem bePre_full (k : Nat) (n : Int) : bePre k n k = be k n := rfl
theorem bePre_succ (k : Nat) (n : Int) (m : Nat) : bePre k n (m + 1) = bePre k n m ++ [UInt8.ofNat (n / 2 ^ (8 * (k - 1 - m)) % 256).toNat] := by simp [bePre, List.range_succ]
theorem bePre_length (k : Nat) (n : Int) (m : Nat) : (bePre k n m).length = m := by simp [bePre]
theorem byte_val (x : Int) : x % 256 = ((UInt8.ofNat (x % 256).toNat).toNat : Int) := by
  rw [UInt8.toNat_ofNat']; omega
theorem shr_byte (P : Program) (z : Int) (q : Nat) (hq : q ≤ 3) (W : World) : (Op.shift BinOp.shr IntKind.i64 z IntKind.i64 (IntKind.i64.wrap (8 * (q : Int)))).run P W = .ok (.int .i64 (z / 2 ^ (8 * q))) W := by
  have e : IntKind.i64.wrap (8 * (q : Int)) = ((8 * q : Nat) : Int) := by simp [IntKind.wrap, IntKind.bits, IntKind.signed]; omega
  rw [e]
  simp [go_sem]
  rw [show (8 * (q : Int)).toNat = 8 * q by omega]
def putL (k : Nat) (zs : List Int) (j : Nat) : List UInt8 := (zs.take j).flatMap (be k)
theorem putL_succ (k : Nat) (zs : List Int) (j : Nat) (h : j < zs.length) : putL k zs (j + 1) = putL k zs j ++ be k (zs.getD j 0) := by
  unfold putL
  rw [List.take_succ_eq_append_getElem h, List.flatMap_append, List.getD_eq_getElem?_getD, List.getElem?_eq_getElem h]; simp
theorem putL_length (k : Nat) (zs : List Int) (j : Nat) (h : j ≤ zs.length) : (putL k zs j).length = j * k := by
  induction j with
  | zero => simp [putL]
  | succ j ih => rw [putL_succ _ _ _ (by omega), List.length_append, be_length, ih (by omega), Nat.add_mul]; omega
set_option maxHeartbeats 4000000 in
theorem put_any {R b : Nat} {l : List UInt8} {w : World} (h : Pk R b l w) (k : Nat) (zs : List Int) (g : Nat) (hk : 1 ≤ k) (hk4 : k ≤ 4) (hz : zs.length ≤ 100) (hl : l.length ≤ 9000000) (hB : R ≤ w.heap.size) (hg : Blk w g 3 (ints zs).toArray) (hgb : g ≠ b) :
    Calls Tryd.prog 69 #[.pointer (some ⟨b, 0, none⟩), .int .i64 k, .slice (some ⟨g, 0, none⟩) zs.length zs.length] w fun e w' => e = .returned (.tuple #[]) ∧ Pk R b (l ++ zs.flatMap (be k)) w' ∧ FrX R b w w' ∧ KeepB b w w' := by
  have HP := Lib.hid h
  have HG := Lib.hid hg
  generalize hn : zs.length = n at *
  have HN := Lib.hid hn
  clear h hg hn
  go_enter Tryd.func69, Tryd.ntmps69
  go_wp2
  go_loopw [7, 8, 11] (fun _ _ vi wr => ∃ j : Nat, j ≤ n ∧ vi = .int .i64 j ∧ Pk R b (l ++ putL k zs j) wr ∧ FrX R b w wr ∧ KeepB b w wr) (fun _ _ i _ => n - (intOf i).toNat)
  case atStart => exact ⟨0, by omega, rfl, by simpa [putL] using HP.out, FrX.refl _ _ _, KeepB.refl _ _⟩
  case round =>
    obtain ⟨j, hj, rfl, hpk, hbl, hkp⟩ := hrel
    have HPk := Lib.hid hpk
    have HBl := Lib.hid hbl
    have HKp := Lib.hid hkp
    clear hpk hkp
    by_cases hlt : j < n
    · have d0 := (HKp.out g _ _ HG.out (by decide) hgb).cell j
      rw [show (ints zs).toArray[j]? = some (.int .i64 (zs.getD j 0)) by rw [List.getElem?_toArray]; exact ints_get (by rw [HN.out]; exact hlt)] at d0
      have HS := Lib.hid (putL_succ k zs j (by rw [HN.out]; exact hlt))
      have HL := Lib.hid (putL_length k zs j (by rw [HN.out]; exact hj))
      generalize zs.getD j 0 = z at *
      clear hbl
      go_wp2
      go_loopw [8] (fun vi wq => ∃ m : Nat, m ≤ k ∧ vi = .int .i64 ((k : Int) - 1 - (m : Int)) ∧ Pk R b (l ++ putL k zs j ++ bePre k z m) wq ∧ FrX R b w wq ∧ KeepB b w wq) (fun i _ => (intOf i + 1).toNat)
      case atStart => exact ⟨0, by omega, by simp, by simpa [bePre] using HPk.out, HBl.out, HKp.out⟩
      case round =>
        obtain ⟨m, hm, rfl, hpk2, hbl2, hkp2⟩ := hrel
        have HPk2 := Lib.hid hpk2
        have HBl2 := Lib.hid hbl2
        have HKp2 := Lib.hid hkp2
        clear hpk2 hbl2 hkp2
        by_cases hlt2 : m < k
        · obtain ⟨q, hq⟩ : ∃ q, k = m + q + 1 := ⟨k - m - 1, by omega⟩
          have e1 : (k : Int) - 1 - (m : Int) = (q : Int) := by omega
          have hq4 : q ≤ 3 := by omega
          rw [e1]
          go_wp2
          have hsh := fun W => shr_byte Tryd.prog z q hq4 W
          have HBe := Lib.hid (bePre_succ k z m)
          rw [show k - 1 - m = q by omega] at HBe
          generalize hx : z / 2 ^ (8 * q) = x at *
          have hbz := Nat.le_trans hB HBl2.out.size
          have HLn : Hid ((l ++ putL k zs j ++ bePre k z m).length ≤ 10000000) := by
            unfold Hid
            rw [List.length_append, List.length_append, HL.out, bePre_length]
            have : j * k ≤ 100 * 4 := Nat.mul_le_mul (by omega) (by omega)
            omega
          have HWr : Hid (Calls Tryd.prog 91 #[.pointer (some ⟨b, 0, none⟩), .int .u8 (IntKind.u8.wrap x)] wr.drew fun e w' => e = .returned .nilIface ∧ Pk R b (l ++ putL k zs j ++ bePre k z m ++ [UInt8.ofNat (x % 256).toNat]) w' ∧ FrX R b wr.drew w' ∧ KeepB b wr.drew w') :=
            pk_byte (w := wr.drew) HPk2.out _ _ ((by simp [IntKind.wrap, IntKind.bits, IntKind.signed] : IntKind.u8.wrap x = x % 256).trans (byte_val x)) HLn.out hbz
          clear hq
          go_region_with (go_at_call 91; refine HWr.out.mono ?_; rintro e w5 ⟨rfl, hpk5, hb5, hk5⟩)
          go_wp2
          refine ⟨⟨m + 1, by omega, valInt (by omega), ?_, ?_, ?_⟩, by simp [intOf]⟩
          · rw [HBe.out, ← List.append_assoc]; exact hpk5
          · exact HBl2.out.trans ((show FrX R b wr w5 from ⟨hb5.os, hb5.tape.trans rfl, hb5.output, hb5.size, hb5.block⟩))
          · exact HKp2.out.trans hk5
        · obtain rfl : m = k := by omega
          go_wp2
          refine ⟨⟨j + 1, by omega, by go_num, ?_, HBl2.out, HKp2.out⟩, by simp [intOf]; omega⟩
          rw [HS.out, ← List.append_assoc]
          exact HPk2.out
    · obtain rfl : j = n := by omega
      go_wp2
      go_end0
      refine ⟨rfl, ?_, HBl.out, HKp.out⟩
      have := HPk.out
      unfold putL at this
      rwa [List.take_of_length_le (by rw [HN.out]; exact Nat.le_refl _)] at this
set_option maxRecDepth 100000 in
/-- The bytes as a string. -/
theorem pk_string {R b : Nat} {l : List UInt8} {w : World} (h : Pk R b l w) : Calls Tryd.prog 71 #[.pointer (some ⟨b, 0, none⟩)] w fun e w' => e = .returned (.string ⟨l.toArray⟩) ∧ FrX R b w w' := by
  by_cases h0 : l = []
  · subst h0
    obtain ⟨p, hbk⟩ := h.2 rfl
    have hUS : ∀ W, (Builtin.unsafeString_ #[180, 3] 9 #[.pointer none, .int .i64 0]).run Tryd.prog W = .ok (.string .empty) W := fun W => Lib.run_unsafeString_none W _ _ _ none
    have c1 : w.drew.cell? ⟨b, 1, none⟩ = some (.slice none 0 0) := by rw [hbk.drew.cell]; rfl
    have hSD : (Builtin.unsafeSliceData_ #[42] 180 #[.slice none 0 0]).run Tryd.prog w.drew = .ok (.pointer none) w.drew := rfl
    go_enter Tryd.func71, Tryd.ntmps71
    go_wp2
    go_region
    all_goals (go_wp2; go_ret; exact ⟨rfl, FrX.of_below (B := R) (Below.drew (Below.refl R w)) (Nat.le_refl _)⟩)
  · obtain ⟨p, v, hbk, hown, hne⟩ : ∃ p, PB R b p (Lib.byteCells l) w := by
      rcases h.1 with h | h
      · exact ⟨_, h⟩
      · exact ⟨_, h⟩
    have hl0 : l.length ≠ 0 := by simpa using h0
    rw [Lib.byteCells_length] at hown
    obtain ⟨g, cap, cur, rfl, hbg, hg, hnc, hcm, hcs, htake⟩ : ∃ g cap cur, v = .slice (some ⟨g, 0, none⟩) l.length cap ∧ R ≤ g ∧ w.heap[g]? = some (.cells cur 5 (0, 0)) ∧ l.length ≤ cap ∧ cap ≤ maxLen ∧ cur.size = cap * 1 ∧ cur.toList.take (l.length * 1) = Lib.byteCells l := by
      rcases hown.2 with ⟨_, hz⟩ | ⟨g, cap, cur, hv, r⟩
      · exact absurd hz hl0
      · exact ⟨g, cap, cur, hv, r⟩
    have c1 : w.drew.cell? ⟨b, 1, none⟩ = some (.slice (some ⟨g, 0, none⟩) l.length cap) := by rw [hbk.drew.cell]; rfl
    have hSD : (Builtin.unsafeSliceData_ #[42] 180 #[.slice (some ⟨g, 0, none⟩) l.length cap]).run Tryd.prog w.drew = .ok (.pointer (some ⟨g, 0, none⟩)) w.drew :=
      Lib.run_unsafeSliceData_row _ _ _ _ _ _ (by omega)
    have hUS : (Builtin.unsafeString_ #[180, 3] 9 #[.pointer (some ⟨g, 0, none⟩), .int .i64 l.length]).run Tryd.prog w.drew = .ok (.string ⟨l.toArray⟩) (w.drew.freeze ⟨g, 0, none⟩ l.length) := by
      refine Lib.run_unsafeString_row w.drew 180 3 9 5 Tryd.underlying180 (by kernel_rfl) g cur.size (by have hg' : w.drew.heap[g]? = some (.cells cur 5 (0, 0)) := hg; simp [World.shape?, hg']) l h0 (by omega) (by unfold maxLen at hcm; omega) ?_
      intro j x hx
      exact hown.cells (g := g) rfl j (.int .u8 x.toNat) (by simp [Lib.byteCells, hx])
    have hF : Hid (FrX R b w (w.drew.freeze ⟨g, 0, none⟩ l.length)) := FrX.of_below (B := R) (Lib.below_freeze (Below.drew (Below.refl R w)) (p := ⟨g, 0, none⟩) hbg _) (Nat.le_refl _)
    clear h hown hg hcs htake hne
    go_enter Tryd.func71, Tryd.ntmps71
    go_wp2
    go_region
    all_goals (go_wp2; go_ret; exact ⟨rfl, hF.out⟩)
end Go.Proofs.YtefkglmdkjkbiaaDoor
