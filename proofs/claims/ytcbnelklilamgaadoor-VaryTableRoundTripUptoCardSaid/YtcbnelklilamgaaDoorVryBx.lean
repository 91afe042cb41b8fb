/- A builder of a call's own. -/
import Derived.Test.YtcbnelklilamgaaDoorBuilder
import Derived.Test.YtcbnelklilamgaaDoorLaid
namespace Go.Proofs.YtcbnelklilamgaaDoor
open Go.RowKit
theorem byteCells_append (a b : List UInt8) : Lib.byteCells (a ++ b) = Lib.byteCells a ++ Lib.byteCells b := by simp [Lib.byteCells]
theorem strCells_of (l : List UInt8) : Lib.strCells ⟨l.toArray⟩ = Lib.byteCells l := by simp [Lib.strCells, Lib.byteCells]
/-- A builder in block b of the call from block B on, holding l. -/
def Bx (B b : Nat) (l : List UInt8) (w : World) : Prop := Lib.IsBuilder 49 5 B b (Lib.byteCells l) w
theorem bx_new (w : World) : Bx w.heap.size w.heap.size [] (w.alloc (.cells #[.pointer none, .slice none 0 0] 49)) := Lib.fresh_isBuilder _ _ w
theorem bx_drew {B b : Nat} {l : List UInt8} {w : World} (h : Bx B b l w) : Bx B b l w.drew := h
theorem bx_below {B b : Nat} {l : List UInt8} {w w' : World} (h : Bx B b l w) (hb : Below w.heap.size w w') : Bx B b l w' := by
  rcases h with h | h
  · obtain ⟨hB, v, hbk, hown, hne⟩ := h
    exact .inl ⟨hB, v, (hb.block _ (Lib.BuilderAt.lt ⟨hB, v, hbk, hown, hne⟩)).trans hbk, own_below hown hb, hne⟩
  · obtain ⟨hB, v, hbk, hown, hne⟩ := h
    exact .inr ⟨hB, v, (hb.block _ (Lib.BuilderAt.lt ⟨hB, v, hbk, hown, hne⟩)).trans hbk, own_below hown hb, hne⟩
theorem bx_write {B b : Nat} {l : List UInt8} {w : World} (h : Bx B b l w) (t : ByteArray) (hl : l.length + t.size ≤ 140737488355328) (hB : B ≤ w.heap.size) :
    Calls Tryd.prog 20 #[.pointer (some ⟨b, 0, none⟩), .string t] w fun e w' => e = .returned (.tuple #[.int .i64 t.size, .nilIface]) ∧ Bx B b (l ++ t.data.toList) w' ∧ Below B w w' ∧ KeepB b w w' := by
  refine (Builder_WriteString B b _ t w h ?_ hB).mono ?_
  · rw [Lib.byteCells_length]; omega
  · rintro e w' ⟨rfl, ⟨h1, h2⟩, h3⟩
    refine ⟨rfl, ?_, h2, h3⟩
    rw [show Lib.strCells t = Lib.byteCells t.data.toList from strCells_of t.data.toList, ← byteCells_append] at h1
    exact .inr h1
theorem bx_string {B b : Nat} {l : List UInt8} {w : World} (h : Bx B b l w) (hB : B ≤ w.heap.size) :
    Calls Tryd.prog 25 #[.pointer (some ⟨b, 0, none⟩)] w fun e w' => e = .returned (.string ⟨l.toArray⟩) ∧ Below B w w' := Builder_String_any B b l w h hB
theorem bx_byte {B b : Nat} {l : List UInt8} {w : World} (h : Bx B b l w) (c : UInt8) (v : Int) (hv : v = (c.toNat : Int)) (hl : l.length + 1 ≤ 140737488355328) (hB : B ≤ w.heap.size) :
    Calls Tryd.prog 22 #[.pointer (some ⟨b, 0, none⟩), .int .u8 v] w fun e w' => e = .returned .nilIface ∧ Bx B b (l ++ [c]) w' ∧ Below B w w' ∧ KeepB b w w' := by
  subst hv
  refine (Builder_WriteByte B b _ _ w h ?_ hB).mono ?_
  · rw [Lib.byteCells_length]; omega
  · rintro e w' ⟨rfl, ⟨h1, h2⟩, h3⟩
    refine ⟨rfl, ?_, h2, h3⟩
    rw [show [Value.int .u8 (c.toNat : Int)] = Lib.byteCells [c] from rfl, ← byteCells_append] at h1
    exact .inr h1
theorem bx_len {B b : Nat} {l : List UInt8} {w : World} (h : Bx B b l w) :
    Calls Tryd.prog 24 #[.pointer (some ⟨b, 0, none⟩)] w fun e w' => e = .returned (.int .i64 l.length) ∧ w' = w := by
  have hx : ∃ (A : Option Addr) (c : Nat), w.cell? ⟨b, 1, none⟩ = some (.slice A l.length c) := by
    have key : ∀ {p v}, w.heap[b]? = some (.cells #[p, v] 49 (0, 0)) → w.ownsRow B 5 1 v (Lib.byteCells l).length (Lib.byteCells l) → ∃ (A : Option Addr) (c : Nat), w.cell? ⟨b, 1, none⟩ = some (.slice A l.length c) := fun hbk hown => by
      obtain ⟨A, c, rfl⟩ := own_form hown
      rw [Lib.byteCells_length] at hbk
      exact ⟨A, c, by rw [Lib.cell_of_heap hbk]; rfl⟩
    rcases h with h | h
    · obtain ⟨hB, v, hbk, hown, hne⟩ := h
      exact key hbk hown
    · obtain ⟨hB, v, hbk, hown, hne⟩ := h
      exact key hbk hown
  obtain ⟨A, c, hc⟩ := hx
  go_enter Tryd.func24, Tryd.ntmps24
  go_wp2
  go_ret
  exact ⟨rfl, rfl⟩
end Go.Proofs.YtcbnelklilamgaaDoor
