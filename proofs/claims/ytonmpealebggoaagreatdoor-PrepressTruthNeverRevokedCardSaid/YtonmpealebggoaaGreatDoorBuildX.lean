/- A builder of a call's own. -/
import Derived.Test.YtonmpealebggoaaGreatDoorBuilderS
import Derived.Test.YtonmpealebggoaaGreatDoorLaid
namespace Go.Proofs.YtonmpealebggoaaGreatDoor
open Go.RowKit
theorem byteCells_append (a b : List UInt8) : Lib.byteCells (a ++ b) = Lib.byteCells a ++ Lib.byteCells b := by simp [Lib.byteCells]
theorem strCells_of (l : List UInt8) : Lib.strCells ⟨l.toArray⟩ = Lib.byteCells l := by simp [Lib.strCells, Lib.byteCells]
/-- A builder in block b of the call from block B on, holding l. -/
def Bx (B b : Nat) (l : List UInt8) (w : World) : Prop := Lib.IsBuilder 102 5 B b (Lib.byteCells l) w
theorem bx_new (w : World) : Bx w.heap.size w.heap.size [] (w.alloc (.cells #[.pointer none, .slice none 0 0] 102)) := Lib.fresh_isBuilder _ _ w
theorem bx_drew {B b : Nat} {l : List UInt8} {w : World} (h : Bx B b l w) : Bx B b l w.drew := h
theorem bx_below {B b : Nat} {l : List UInt8} {w w' : World} (h : Bx B b l w) (hb : Below w.heap.size w w') : Bx B b l w' := by
  rcases h with h | h
  · obtain ⟨hB, v, hbk, hown, hne⟩ := h
    exact .inl ⟨hB, v, (hb.block _ (Lib.BuilderAt.lt ⟨hB, v, hbk, hown, hne⟩)).trans hbk, own_below hown hb, hne⟩
  · obtain ⟨hB, v, hbk, hown, hne⟩ := h
    exact .inr ⟨hB, v, (hb.block _ (Lib.BuilderAt.lt ⟨hB, v, hbk, hown, hne⟩)).trans hbk, own_below hown hb, hne⟩
theorem bx_write {B b : Nat} {l : List UInt8} {w : World} (h : Bx B b l w) (t : ByteArray) (hl : l.length + t.size ≤ 140737488355328) (hB : B ≤ w.heap.size) :
    Calls Tryz.prog 49 #[.pointer (some ⟨b, 0, none⟩), .string t] w fun e w' => e = .returned (.tuple #[.int .i64 t.size, .nilIface]) ∧ Bx B b (l ++ t.data.toList) w' ∧ Below B w w' ∧ KeepB b w w' := by
  refine (Builder_WriteString B b _ t w h ?_ hB).mono ?_
  · rw [Lib.byteCells_length]; omega
  · rintro e w' ⟨rfl, ⟨h1, h2⟩, h3⟩
    refine ⟨rfl, ?_, h2, h3⟩
    rw [show Lib.strCells t = Lib.byteCells t.data.toList from strCells_of t.data.toList, ← byteCells_append] at h1
    exact .inr h1
theorem bx_string {B b : Nat} {l : List UInt8} {w : World} (h : Bx B b l w) (hB : B ≤ w.heap.size) :
    Calls Tryz.prog 51 #[.pointer (some ⟨b, 0, none⟩)] w fun e w' => e = .returned (.string ⟨l.toArray⟩) ∧ Below B w w' := Builder_String_any B b l w h hB
end Go.Proofs.YtonmpealebggoaaGreatDoor
