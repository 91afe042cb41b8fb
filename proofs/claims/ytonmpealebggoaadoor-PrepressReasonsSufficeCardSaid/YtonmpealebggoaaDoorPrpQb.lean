/- A region that draws its order, whose callees may lay blocks: one walk in the order of the text, in the class of the worlds that are as W below its end. No program is in sight here. -/
import Derived.Test.YtonmpealebggoaaDoorPrpSho0
import Derived.Deep.QuietTactic
namespace Go.Proofs.YtonmpealebggoaaDoor
open Go.RowKit
/-- A world that is as W below W's end. -/
structure Bel (W : World) where
  w : World
  h : Below W.heap.size W w
theorem bel_some (W : World) : Nonempty (Bel W) := ⟨⟨W, Below.refl _ _⟩⟩
theorem wp_region_bel {P : Program} (W : World) {id : Nat} {Q : Exit → Act → World → Prop} {a : Act} {w : World} {l : List Oper} (hm : P.follows .mixedOrders = true) (hB : Region.lexB .any l.toArray = true) (h0 : Below W.heap.size W w.drew)
    (h : wpQuiet P l.toArray (fun w' => ∃ p : Bel W, w' = p.w) (fun a' => ∀ w', (∃ p : Bel W, w' = p.w) → Q .normal a' w') l a) : (Code.region id l.toArray true).wp P Q a w :=
  wp_region_quiet (C := fun w' => ∃ p : Bel W, w' = p.w) hm hB ⟨⟨w.drew, h0⟩, rfl⟩ (by simpa using h)
theorem bel_call {P : Program} {W : World} {f : FuncId} {args : Array Value} {v : Value} (H : ∀ W', Below W.heap.size W W' → Calls P f args W' fun e w' => e = .returned v ∧ Below W'.heap.size W' w') (p : Bel W) :
    Calls P f args p.w fun e w'' => e = .returned v ∧ ∃ p' : Bel W, w'' = p'.w :=
  (H p.w p.h).mono fun _ w' ⟨a, b⟩ => ⟨a, ⟨w', p.h.trans (b.mono p.h.size)⟩, rfl⟩
theorem bel_cell {W : World} {a : Addr} {v : Value} (hl : a.block < W.heap.size) (h : W.cell? a = some v) (p : Bel W) : p.w.cell? a = some v := (p.h.cell hl).trans h
end Go.Proofs.YtonmpealebggoaaDoor
