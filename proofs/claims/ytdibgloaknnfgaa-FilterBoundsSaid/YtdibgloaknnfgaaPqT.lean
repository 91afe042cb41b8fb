/- A builder of a call's own, what it holds; its methods. -/
import Derived.Test.YtdibgloaknnfgaaPqR
import Derived.Deep.QuietTactic
import Derived.RegionTactic
import Derived.Deep.RegionWith
import Derived.StillTailTactics
import Derived.BigRegion
import Derived.Lib.UnsafeStr
namespace Go.Proofs.Ytdibgloaknnfgaa.Pq
open Go.RowKit
theorem byteCells_append (a b : List UInt8) : Lib.byteCells (a ++ b) = Lib.byteCells a ++ Lib.byteCells b := by simp [Lib.byteCells]
theorem strCells_of (l : List UInt8) : Lib.strCells ⟨l.toArray⟩ = Lib.byteCells l := by simp [Lib.strCells, Lib.byteCells]
/-- A builder in block b, whose bytes lie from block R on, holding l. -/
def Pk (R b : Nat) (l : List UInt8) (w : World) : Prop := (PB R b (.pointer none) (Lib.byteCells l) w ∨ PB R b (.pointer (some ⟨b, 0, none⟩)) (Lib.byteCells l) w) ∧ (l = [] → ∃ p, Blk w b 66 #[p, .slice none 0 0])
theorem pk_fresh {R b : Nat} {w : World} (h : Blk w b 66 #[.pointer none, .slice none 0 0]) : Pk R b [] w := ⟨.inl ⟨_, h, World.ownsRow_nil _ _ _ _, by simp [Value.ownBlock]⟩, fun _ => ⟨_, h⟩⟩
theorem PB.keep {R b : Nat} {p : Value} {bs : List Value} {w w' : World} (h : PB R b p bs w) (hk : ∀ k, k < w.heap.size → (k = b ∨ R ≤ k) → w'.heap[k]? = w.heap[k]?) : PB R b p bs w' := by
  obtain ⟨v, hbk, hown, hne⟩ := h
  refine ⟨v, (hk b hbk.lt (.inl rfl)).trans hbk, ?_, hne⟩
  rcases hown with ⟨hl, h⟩
  refine ⟨hl, ?_⟩
  rcases h with h | ⟨g, cap, cur, hv, hg, hh, r⟩
  · exact .inl h
  · refine .inr ⟨g, cap, cur, hv, hg, ?_, r⟩
    rw [hk g ?_ (.inr hg)]; exact hh
    rcases Nat.lt_or_ge g w.heap.size with h | h
    · exact h
    · rw [Array.getElem?_eq_none h] at hh; cases hh
theorem pk_keep {R b : Nat} {l : List UInt8} {w w' : World} (h : Pk R b l w) (hk : ∀ k, k < w.heap.size → (k = b ∨ R ≤ k) → w'.heap[k]? = w.heap[k]?) : Pk R b l w' := by
  obtain ⟨h, h2⟩ := h
  refine ⟨?_, fun e => ?_⟩
  · rcases h with h | h
    · exact .inl (h.keep hk)
    · exact .inr (h.keep hk)
  · obtain ⟨p, hb⟩ := h2 e
    exact ⟨p, (hk b hb.lt (.inl rfl)).trans hb⟩
theorem pk_below {R b : Nat} {l : List UInt8} {w w' : World} (h : Pk R b l w) (hb : Below w.heap.size w w') : Pk R b l w' := pk_keep h (fun k hk _ => hb.block k hk)
/-- Another builder's writing leaves this one. -/
theorem pk_other {R R' b b' : Nat} {l : List UInt8} {w w' : World} (h : Pk R b l w) (hf : FrX R' b' w w') (hR : w.heap.size ≤ R') (hb : b' ≠ b) (hb2 : b' < R) : Pk R b l w' :=
  pk_keep h (fun k hk h2 => hf.block k (by omega) (by rcases h2 with h2 | h2 <;> omega))
theorem pk_byte {R b : Nat} {l : List UInt8} {w : World} (h : Pk R b l w) (c : UInt8) (v : Int) (hv : v = (c.toNat : Int)) (hl : l.length ≤ 10000000) (hB : R ≤ w.heap.size) :
    Calls Try.prog 38 #[.pointer (some ⟨b, 0, none⟩), .int .u8 v] w fun e w' => e = .returned .nilIface ∧ Pk R b (l ++ [c]) w' ∧ FrX R b w w' ∧ KeepB b w w' := by
  subst hv
  refine (Builder_WriteByte R b _ _ w h.1 ?_ hB).mono ?_
  · rw [Lib.byteCells_length]; omega
  · rintro e w' ⟨rfl, ⟨h1, h2⟩, h3⟩
    refine ⟨rfl, ?_, h2, h3⟩
    rw [show [Value.int .u8 (c.toNat : Int)] = Lib.byteCells [c] from rfl, ← byteCells_append] at h1
    exact ⟨.inr h1, fun e => by simp at e⟩
theorem pk_write {R b : Nat} {l : List UInt8} {w : World} (h : Pk R b l w) (t : ByteArray) (hl : l.length + t.size ≤ 10000000) (hB : R ≤ w.heap.size) (hne : l ++ t.data.toList ≠ []) :
    Calls Try.prog 33 #[.pointer (some ⟨b, 0, none⟩), .string t] w fun e w' => e = .returned (.tuple #[.int .i64 t.size, .nilIface]) ∧ Pk R b (l ++ t.data.toList) w' ∧ FrX R b w w' ∧ KeepB b w w' := by
  refine (Builder_WriteString R b _ t w h.1 ?_ hB).mono ?_
  · rw [Lib.byteCells_length]; omega
  · rintro e w' ⟨rfl, ⟨h1, h2⟩, h3⟩
    refine ⟨rfl, ?_, h2, h3⟩
    rw [show Lib.strCells t = Lib.byteCells t.data.toList from strCells_of t.data.toList, ← byteCells_append] at h1
    exact ⟨.inr h1, fun e => absurd e hne⟩
set_option maxRecDepth 100000 in
/-- The bytes as a string. -/
theorem pk_string {R b : Nat} {l : List UInt8} {w : World} (h : Pk R b l w) : Calls Try.prog 36 #[.pointer (some ⟨b, 0, none⟩)] w fun e w' => e = .returned (.string ⟨l.toArray⟩) ∧ FrX R b w w' := by
  by_cases h0 : l = []
  · subst h0
    obtain ⟨p, hbk⟩ := h.2 rfl
    have hUS : ∀ W, (Builtin.unsafeString_ #[48, 3] 9 #[.pointer none, .int .i64 0]).run Try.prog W = .ok (.string .empty) W := fun W => Lib.run_unsafeString_none W _ _ _ none
    have c1 : w.drew.cell? ⟨b, 1, none⟩ = some (.slice none 0 0) := by rw [hbk.drew.cell]; rfl
    have hSD : (Builtin.unsafeSliceData_ #[32] 48 #[.slice none 0 0]).run Try.prog w.drew = .ok (.pointer none) w.drew := rfl
    go_enter Try.func36, Try.ntmps36
    go_wp2
    go_region
    all_goals (go_wp2; go_ret; exact ⟨rfl, FrX.of_below (B := R) (Below.drew (Below.refl R w)) (Nat.le_refl _)⟩)
  · obtain ⟨p, v, hbk, hown, hne⟩ : ∃ p, PB R b p (Lib.byteCells l) w := by
      rcases h.1 with h | h
      · exact ⟨_, h⟩
      · exact ⟨_, h⟩
    have hl0 : l.length ≠ 0 := by simpa using h0
    rw [Lib.byteCells_length] at hown
    obtain ⟨g, cap, cur, rfl, hbg, hg, hnc, hcm, hcs, htake⟩ : ∃ g cap cur, v = .slice (some ⟨g, 0, none⟩) l.length cap ∧ R ≤ g ∧ w.heap[g]? = some (.cells cur 5 (0, 0)) ∧ l.length ≤ cap ∧ cap ≤ maxLen ∧ cur.size = cap * 1 ∧ cur.toList.take (l.length * 1) = Lib.byteCells l := by
      rcases hown.2 with ⟨_, hz⟩ | ⟨g, cap, cur, hv, r⟩
      · exact absurd hz hl0
      · exact ⟨g, cap, cur, hv, r⟩
    have c1 : w.drew.cell? ⟨b, 1, none⟩ = some (.slice (some ⟨g, 0, none⟩) l.length cap) := by rw [hbk.drew.cell]; rfl
    have hSD : (Builtin.unsafeSliceData_ #[32] 48 #[.slice (some ⟨g, 0, none⟩) l.length cap]).run Try.prog w.drew = .ok (.pointer (some ⟨g, 0, none⟩)) w.drew :=
      Lib.run_unsafeSliceData_row _ _ _ _ _ _ (by omega)
    have hUS : (Builtin.unsafeString_ #[48, 3] 9 #[.pointer (some ⟨g, 0, none⟩), .int .i64 l.length]).run Try.prog w.drew = .ok (.string ⟨l.toArray⟩) (w.drew.freeze ⟨g, 0, none⟩ l.length) := by
      refine Lib.run_unsafeString_row w.drew 48 3 9 5 Try.underlying48 (by kernel_rfl) g cur.size (by have hg' : w.drew.heap[g]? = some (.cells cur 5 (0, 0)) := hg; simp [World.shape?, hg']) l h0 (by omega) (by unfold maxLen at hcm; omega) ?_
      intro j x hx
      exact hown.cells (g := g) rfl j (.int .u8 x.toNat) (by simp [Lib.byteCells, hx])
    have hF : Hid (FrX R b w (w.drew.freeze ⟨g, 0, none⟩ l.length)) := FrX.of_below (B := R) (Lib.below_freeze (Below.drew (Below.refl R w)) (p := ⟨g, 0, none⟩) hbg _) (Nat.le_refl _)
    clear h hown hg hcs htake hne
    go_enter Try.func36, Try.ntmps36
    go_wp2
    go_region
    all_goals (go_wp2; go_ret; exact ⟨rfl, hF.out⟩)
set_option maxRecDepth 100000 in
/-- How many bytes. -/
theorem pk_len {R b : Nat} {l : List UInt8} {w : World} (h : Pk R b l w) : Calls Try.prog 35 #[.pointer (some ⟨b, 0, none⟩)] w fun e w' => e = .returned (.int .i64 l.length) ∧ w = w' := by
  obtain ⟨p, v, hbk, hown, hne⟩ : ∃ p, PB R b p (Lib.byteCells l) w := by
    rcases h.1 with h | h
    · exact ⟨_, h⟩
    · exact ⟨_, h⟩
  rw [Lib.byteCells_length] at hown
  obtain ⟨A, c, rfl⟩ := own_form hown
  have c1 : w.cell? ⟨b, 1, none⟩ = some (.slice A l.length c) := by rw [hbk.cell]; rfl
  clear h hown hne
  generalize l.length = n at *
  go_enter Try.func35, Try.ntmps35
  go_wp2
  go_ret
  exact ⟨rfl, rfl⟩
end Go.Proofs.Ytdibgloaknnfgaa.Pq
