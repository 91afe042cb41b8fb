/- The walk of literals. -/
import Derived.Test.YtdibgloaknnfgaaLits
namespace Go.Proofs.Ytdibgloaknnfgaa
open Go.RowKit
/-- A builder in block b of the call from block B on, holding l. -/
def Bx (B b : Nat) (l : List UInt8) (w : World) : Prop := Lib.IsBuilder 66 5 B b (Lib.byteCells l) w
theorem bx_write {B b : Nat} {l : List UInt8} {w : World} (h : Bx B b l w) (t : ByteArray) (hl : l.length + t.size ≤ 10000000) (hB : B ≤ w.heap.size) :
    Calls Try.prog 33 #[.pointer (some ⟨b, 0, none⟩), .string t] w fun e w' => e = .returned (.tuple #[.int .i64 t.size, .nilIface]) ∧ Bx B b (l ++ t.data.toList) w' ∧ Below B w w' := by
  refine (Builder_WriteString B b _ t w h ?_ hB).mono ?_
  · rw [Lib.byteCells_length]; omega
  · rintro e w' ⟨rfl, h1, h2⟩
    refine ⟨rfl, ?_, h2⟩
    rw [show Lib.strCells t = Lib.byteCells t.data.toList from strCells_of t.data.toList, ← byteCells_append] at h1
    exact .inr h1
theorem bx_byte {B b : Nat} {l : List UInt8} {w : World} (h : Bx B b l w) (c : UInt8) (hl : l.length ≤ 10000000) (hB : B ≤ w.heap.size) :
    Calls Try.prog 38 #[.pointer (some ⟨b, 0, none⟩), .int .u8 (c.toNat : Int)] w fun e w' => e = .returned .nilIface ∧ Bx B b (l ++ [c]) w' ∧ Below B w w' := by
  refine (Builder_WriteByte B b _ _ w h ?_ hB).mono ?_
  · rw [Lib.byteCells_length]; omega
  · rintro e w' ⟨rfl, h1, h2⟩
    refine ⟨rfl, ?_, h2⟩
    rw [show [Value.int .u8 (c.toNat : Int)] = Lib.byteCells [c] from rfl, ← byteCells_append] at h1
    exact .inr h1
end Go.Proofs.Ytdibgloaknnfgaa
