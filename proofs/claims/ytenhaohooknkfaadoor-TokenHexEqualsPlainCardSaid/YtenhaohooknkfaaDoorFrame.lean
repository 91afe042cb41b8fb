/- What a call leaves as it was; a cursor and a builder in memory. -/
import Derived.Test.YtenhaohooknkfaaDoorBuildT
import Derived.Test.YtenhaohooknkfaaDoorTokSmall
namespace Go.Proofs.YtenhaohooknkfaaDoor
open Go.RowKit Tk
/-- Nothing below R turns but the blocks of S. -/
structure FrS (R : Nat) (S : Nat → Prop) (w w' : World) : Prop where
  os : w'.os = w.os
  tape : w'.tape = w.tape
  output : w'.output = w.output
  size : w.heap.size ≤ w'.heap.size
  block : ∀ k, k < R → ¬ S k → w'.heap[k]? = w.heap[k]?
section
variable {R R' : Nat} {S S' : Nat → Prop} {a w w' c : World}
theorem FrS.refl (R : Nat) (S : Nat → Prop) (w : World) : FrS R S w w := ⟨rfl, rfl, rfl, Nat.le_refl _, fun _ _ _ => rfl⟩
theorem FrS.trans (h : FrS R S a w) (k : FrS R S w c) : FrS R S a c := ⟨k.os.trans h.os, k.tape.trans h.tape, k.output.trans h.output, Nat.le_trans h.size k.size, fun j hj hb => (k.block j hj hb).trans (h.block j hj hb)⟩
theorem FrS.weak (h : FrS R S a w) (hR : R' ≤ R) (hS : ∀ k, k < R' → S k → S' k) : FrS R' S' a w := ⟨h.os, h.tape, h.output, h.size, fun k hk hs => h.block k (by omega) fun e => hs (hS k hk e)⟩
theorem FrS.alloc (h : FrS R S a w) (hR : R ≤ w.heap.size) (o : Obj) : FrS R S a (w.alloc o) := ⟨h.os, h.tape, h.output, Nat.le_trans h.size (by simp), fun k hk hs => (Below.heap_alloc w o k (by omega)).trans (h.block k hk hs)⟩
theorem FrS.put (h : FrS R S a w) {p : Addr} (hp : R ≤ p.block ∨ S p.block) (u : Value) : FrS R S a (w.setCell p u) := by
  have h2 := (Below.refl 0 w).setCell (p := p) (Nat.zero_le _) u
  refine ⟨h2.os.trans h.os, h2.tape.trans h.tape, h2.output.trans h.output, Nat.le_trans h.size h2.size, fun k hk hs => ?_⟩
  rw [Below.heap_setCell w p u k fun e => ?_]
  · exact h.block k hk hs
  · rcases hp with hp | hp
    · omega
    · exact hs (e ▸ hp)
theorem FrS.grown {v : Value} (h : FrS R S a w) (hg : w.grownBy w' v.ownBlock) (hR : R ≤ w.heap.size) (hv : ∀ k, v.ownBlock = some k → R ≤ k ∨ S k) : FrS R S a w' :=
  h.trans ⟨hg.os, hg.tape, hg.output, hg.size, fun k hk hs => hg.block k (by omega) fun e => by
    rcases hv k e.symm with h1 | h1
    · omega
    · exact hs h1⟩
theorem FrS.blk {g : Nat} {t : TypeId} {cs : Array Value} (h : FrS R S w w') (hb : Blk w g t cs) (hg : g < R) (hs : ¬ S g) : Blk w' g t cs := (h.block g hg hs).trans hb
theorem FrS.below (h : FrS R S w w') {B : Nat} (hB : B ≤ R) (hS : ∀ k, S k → B ≤ k) : Below B w w' := ⟨h.os, h.tape, h.output, h.size, fun k hk => h.block k (by omega) fun e => by have := hS k e; omega⟩
theorem FrS.own {base n size : Nat} {e : TypeId} {v : Value} {xs : List Value} (h : FrS R S w w') (ho : w.ownsRow base e size v n xs) (hR : ∀ k, v.ownBlock = some k → k < R ∧ ¬ S k) : w'.ownsRow base e size v n xs := by
  rcases ho with ⟨hl, ho⟩
  refine ⟨hl, ?_⟩
  rcases ho with ho | ⟨g, cap, cur, rfl, hg, hh, r⟩
  · exact .inl ho
  · have := hR g rfl
    exact .inr ⟨g, cap, cur, rfl, hg, (h.block g this.1 this.2).trans hh, r⟩
end
theorem FrS.drew {R : Nat} {S : Nat → Prop} {w w' : World} (h : FrS R S w w') : FrS R S w w'.drew := ⟨h.os, h.tape, h.output, h.size, h.block⟩
theorem FrS.drewN {R : Nat} {S : Nat → Prop} {w w' : World} (h : FrS R S w w') (n : Nat) : FrS R S w (w'.drewN n) := ⟨h.os, h.tape, h.output, h.size, h.block⟩
theorem FrS.of_x {R b : Nat} {S : Nat → Prop} {w w' : World} (h : FrX R b w w') (hb : S b) : FrS R S w w' := ⟨h.os, h.tape, h.output, h.size, fun k hk hs => h.block k hk fun e => hs (e ▸ hb)⟩
theorem FrS.of_below {B R : Nat} {S : Nat → Prop} {w w' : World} (h : Below B w w') (hR : R ≤ B) : FrS R S w w' := ⟨h.os, h.tape, h.output, h.size, fun k hk _ => h.block k (by omega)⟩
/-- A cursor in block c: its source, its place. -/
def Cu (w : World) (c : Nat) (S : ByteArray) (p : Nat) : Prop := Blk w c 66 #[.string S, .int .i64 (p : Int)]
theorem Cu.fr {R : Nat} {T : Nat → Prop} {w w' : World} {c : Nat} {S : ByteArray} {p : Nat} (h : Cu w c S p) (hf : FrS R T w w') (hc : c < R) (ht : ¬ T c) : Cu w' c S p := hf.blk h hc ht
theorem Cu.cells {w : World} {c : Nat} {S : ByteArray} {p : Nat} (h : Cu w c S p) : w.cell? ⟨c, 0, none⟩ = some (.string S) ∧ w.cell? ⟨c, 1, none⟩ = some (.int .i64 p) ∧ w.frozen? ⟨c, 1, none⟩ = false ∧ c < w.heap.size := by
  refine ⟨?_, ?_, Blk.frozen h 1, Blk.lt h⟩
  · have := Blk.cell h 0; simpa using this
  · have := Blk.cell h 1; simpa using this
theorem Cu.put {w : World} {c : Nat} {S : ByteArray} {p : Nat} (h : Cu w c S p) (q : Nat) : Cu (w.setCell ⟨c, 1, none⟩ (.int .i64 q)) c S q := by
  have := Blk.put h 1 (.int .i64 (q : Int))
  simpa [Cu] using this
theorem Pk.fr {R R' b : Nat} {T : Nat → Prop} {l : List UInt8} {w w' : World} (h : Pk R b l w) (hf : FrS R' T w w') (hR : w.heap.size ≤ R') (ht : ∀ k, T k → k ≠ b ∧ k < R) : Pk R b l w' :=
  pk_keep h fun k hk h2 => hf.block k (by omega) fun e => by have := ht k e; omega
end Go.Proofs.YtenhaohooknkfaaDoor
