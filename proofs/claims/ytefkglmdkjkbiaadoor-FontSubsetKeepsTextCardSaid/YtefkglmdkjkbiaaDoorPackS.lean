/- A packer that is being written, step by step; a packer whose writing has ended. -/
import Derived.Test.YtefkglmdkjkbiaaDoorPackR
import Derived.Test.YtefkglmdkjkbiaaDoorFntNst
namespace Go.Proofs.YtefkglmdkjkbiaaDoor
open Go.RowKit Fnt
/-- The packer in block b holds l; since w0 nothing has turned but it. -/
structure St (R b : Nat) (l : List UInt8) (w0 w : World) : Prop where
  pk : Pk R b l w
  fr : FrX R b w0 w
  kp : KeepB b w0 w
  hR : R ≤ w.heap.size
theorem Pk.lt {R b : Nat} {l : List UInt8} {w : World} (h : Pk R b l w) : b < w.heap.size := by
  rcases h.1 with ⟨v, hb, _⟩ | ⟨v, hb, _⟩ <;> exact hb.lt
theorem pk_alloc {R b : Nat} {l : List UInt8} {w : World} (h : Pk R b l w) (o : Obj) : Pk R b l (w.alloc o) := pk_below h ((Below.refl _ _).alloc (Nat.le_refl _) o)
section
variable {R b : Nat} {l l2 : List UInt8} {w0 w w2 : World}
theorem St.begin_ (h : Pk R b l w) (hR : R ≤ w.heap.size) : St R b l w w := ⟨h, FrX.refl _ _ _, KeepB.refl _ _, hR⟩
theorem St.again (h : St R b l w0 w) : St R b l w w := St.begin_ h.pk h.hR
theorem St.alloc (h : St R b l w0 w) (o : Obj) : St R b l w0 (w.alloc o) := ⟨pk_alloc h.pk o, h.fr.trans (FrX.of_below ((Below.refl _ _).alloc (Nat.le_refl _) o) h.hR), h.kp.trans (KeepB.alloc _ _), by have := h.hR; simp; omega⟩
theorem St.trans (h : St R b l w0 w) (k : St R b l2 w w2) : St R b l2 w0 w2 := ⟨k.pk, h.fr.trans k.fr, h.kp.trans k.kp, k.hR⟩
theorem St.blk (h : St R b l w0 w) {g : Nat} {t : TypeId} {cs : Array Value} (hb : Blk w0 g t cs) (ht : t ≠ 5) (hg : g ≠ b) : Blk w g t cs := h.kp g t cs hb ht hg
theorem St.lt (h : St R b l w0 w) : b < w.heap.size := h.pk.lt
theorem St.size (h : St R b l w0 w) : w0.heap.size ≤ w.heap.size := h.fr.size
end
def PutPost (R b : Nat) (l : List UInt8) (w0 : World) (e : Ending) (w' : World) : Prop := e = .returned (.tuple #[]) ∧ St R b l w0 w'
theorem st_put {R b : Nat} {l : List UInt8} {w0 w : World} (h : St R b l w0 w) (k : Nat) (zs : List Int) (hk : 1 ≤ k) (hk4 : k ≤ 4) (hz : zs.length ≤ 100) (hl : l.length ≤ 9000000) (hb : b < w.heap.size) :
    Calls Tryd.prog 69 #[.pointer (some ⟨b, 0, none⟩), .int .i64 k, .slice (some ⟨w.heap.size, 0, none⟩) zs.length zs.length] (w.alloc (.cells (ints zs).toArray 3)) (PutPost R b (l ++ zs.flatMap (be k)) w0) := by
  have h1 := h.alloc (.cells (ints zs).toArray 3)
  refine (put_any h1.pk k zs w.heap.size hk hk4 hz hl h1.hR (Blk.new w _ _) (by omega)).mono ?_
  rintro e w' ⟨rfl, a, f, kp⟩
  exact ⟨rfl, a, h1.fr.trans f, h1.kp.trans kp, Nat.le_trans h1.hR f.size⟩
section
variable {R b : Nat} {l : List UInt8} {w0 w : World}
theorem put1 (h : St R b l w0 w) {g : Nat} (hg : g = w.heap.size) (k : Nat) (ki : Int) (hki : ki = (k : Int)) (a : Int) (hk : 1 ≤ k) (hk4 : k ≤ 4) (hl : l.length ≤ 9000000) :
    Calls Tryd.prog 69 #[.pointer (some ⟨b, 0, none⟩), .int .i64 ki, .slice (some ⟨g, 0, none⟩) 1 1] (w.alloc (.cells #[.int .i64 a] 3)) (PutPost R b (l ++ be k a) w0) := by
  subst hki
  subst hg
  have := st_put h k [a] hk hk4 (by simp) hl h.lt
  rw [show [a].flatMap (be k) = be k a by simp] at this
  exact this
theorem put2 (h : St R b l w0 w) {g : Nat} (hg : g = w.heap.size) (k : Nat) (ki : Int) (hki : ki = (k : Int)) (a c : Int) (hk : 1 ≤ k) (hk4 : k ≤ 4) (hl : l.length ≤ 9000000) :
    Calls Tryd.prog 69 #[.pointer (some ⟨b, 0, none⟩), .int .i64 ki, .slice (some ⟨g, 0, none⟩) 2 2] (w.alloc (.cells #[.int .i64 a, .int .i64 c] 3)) (PutPost R b (l ++ (be k a ++ be k c)) w0) := by
  subst hki
  subst hg
  have := st_put h k [a, c] hk hk4 (by simp) hl h.lt
  rw [show [a, c].flatMap (be k) = be k a ++ be k c by simp] at this
  exact this
theorem put3 (h : St R b l w0 w) {g : Nat} (hg : g = w.heap.size) (k : Nat) (ki : Int) (hki : ki = (k : Int)) (a c d : Int) (hk : 1 ≤ k) (hk4 : k ≤ 4) (hl : l.length ≤ 9000000) :
    Calls Tryd.prog 69 #[.pointer (some ⟨b, 0, none⟩), .int .i64 ki, .slice (some ⟨g, 0, none⟩) 3 3] (w.alloc (.cells #[.int .i64 a, .int .i64 c, .int .i64 d] 3)) (PutPost R b (l ++ (be k a ++ (be k c ++ be k d))) w0) := by
  subst hki
  subst hg
  have := st_put h k [a, c, d] hk hk4 (by simp) hl h.lt
  rw [show [a, c, d].flatMap (be k) = be k a ++ (be k c ++ be k d) by simp] at this
  exact this
theorem st_write (h : St R b l w0 w) (t : ByteArray) (hl : l.length + t.size ≤ 10000000) (hne : l ++ t.data.toList ≠ []) :
    Calls Tryd.prog 70 #[.pointer (some ⟨b, 0, none⟩), .string t] w fun e w' => e = .returned (.tuple #[.int .i64 t.size, .nilIface]) ∧ St R b (l ++ t.data.toList) w0 w' := by
  refine (pk_write h.pk t hl h.hR hne).mono ?_
  rintro e w' ⟨rfl, a, f, kp⟩
  exact ⟨rfl, a, h.fr.trans f, h.kp.trans kp, Nat.le_trans h.hR f.size⟩
end
/-- A packer whose writing has ended: its bytes lie in a block from R on and below U. -/
def PkIn (R U b : Nat) (l : List UInt8) (w : World) : Prop := ∃ p v, Blk w b 146 #[p, v] ∧ w.ownsRow R 5 1 v l.length (Lib.byteCells l) ∧ (∀ g, v.ownBlock = some g → g < U) ∧ (l = [] → v = .slice none 0 0)
theorem pk_in {R b : Nat} {l : List UInt8} {w : World} (h : Pk R b l w) : PkIn R w.heap.size b l w := by
  by_cases h0 : l = []
  · obtain ⟨p, hb⟩ := h.2 h0
    subst h0
    exact ⟨p, _, hb, World.ownsRow_nil _ _ _ _, fun g e => by simp [Value.ownBlock] at e, fun _ => rfl⟩
  · obtain ⟨p, v, hbk, hown, _⟩ : ∃ p, PB R b p (Lib.byteCells l) w := by
      rcases h.1 with h | h
      · exact ⟨_, h⟩
      · exact ⟨_, h⟩
    rw [Lib.byteCells_length] at hown
    exact ⟨p, v, hbk, hown, fun g e => (own_lt hown g e).2, fun e => absurd e h0⟩
theorem pkIn_keep {R U b : Nat} {l : List UInt8} {w w' : World} (h : PkIn R U b l w) (hk : ∀ k, k < w.heap.size → (k = b ∨ (R ≤ k ∧ k < U)) → w'.heap[k]? = w.heap[k]?) : PkIn R U b l w' := by
  obtain ⟨p, v, hbk, hown, hU, h0⟩ := h
  refine ⟨p, v, (hk b hbk.lt (.inl rfl)).trans hbk, ?_, hU, h0⟩
  have hlt := own_lt hown
  rcases hown with ⟨hl, h⟩
  refine ⟨hl, ?_⟩
  rcases h with h | ⟨g, cap, cur, rfl, hg, hh, r⟩
  · exact .inl h
  · exact .inr ⟨g, cap, cur, rfl, hg, by rw [hk g (hlt g rfl).2 (.inr ⟨hg, hU g rfl⟩)]; exact hh, r⟩
/-- Nothing turns but blocks from R on and below U. -/
structure Fz (R U : Nat) (w w' : World) : Prop where
  os : w'.os = w.os
  tape : w'.tape = w.tape
  output : w'.output = w.output
  size : w'.heap.size = w.heap.size
  block : ∀ k, k < R ∨ U ≤ k → w'.heap[k]? = w.heap[k]?
theorem Fz.below {R U B : Nat} {w w' : World} (h : Fz R U w w') (hB : B ≤ R) : Below B w w' := ⟨h.os, h.tape, h.output, Nat.le_of_eq h.size.symm, fun k hk => h.block k (.inl (by omega))⟩
set_option maxRecDepth 100000 in
theorem pkIn_string {R U b : Nat} {l : List UInt8} {w : World} (h : PkIn R U b l w) : Calls Tryd.prog 71 #[.pointer (some ⟨b, 0, none⟩)] w fun e w' => e = .returned (.string ⟨l.toArray⟩) ∧ Fz R U w w' := by
  by_cases h0 : l = []
  · obtain ⟨p, v, hbk, _, _, hv⟩ := h
    obtain rfl := hv h0
    subst h0
    have hUS : ∀ W, (Builtin.unsafeString_ #[180, 3] 9 #[.pointer none, .int .i64 0]).run Tryd.prog W = .ok (.string .empty) W := fun W => Lib.run_unsafeString_none W _ _ _ none
    have c1 : w.drew.cell? ⟨b, 1, none⟩ = some (.slice none 0 0) := by rw [hbk.drew.cell]; rfl
    have hSD : (Builtin.unsafeSliceData_ #[42] 180 #[.slice none 0 0]).run Tryd.prog w.drew = .ok (.pointer none) w.drew := rfl
    go_enter Tryd.func71, Tryd.ntmps71
    go_wp2
    go_region
    all_goals (go_wp2; go_ret; exact ⟨rfl, rfl, rfl, rfl, rfl, fun _ _ => rfl⟩)
  · obtain ⟨p, v, hbk, hown, hU, _⟩ := h
    have hl0 : l.length ≠ 0 := by simpa using h0
    obtain ⟨g, cap, cur, rfl, hbg, hg, hnc, hcm, hcs, htake⟩ : ∃ g cap cur, v = .slice (some ⟨g, 0, none⟩) l.length cap ∧ R ≤ g ∧ w.heap[g]? = some (.cells cur 5 (0, 0)) ∧ l.length ≤ cap ∧ cap ≤ maxLen ∧ cur.size = cap * 1 ∧ cur.toList.take (l.length * 1) = Lib.byteCells l := by
      rcases hown.2 with ⟨_, hz⟩ | ⟨g, cap, cur, hv, r⟩
      · exact absurd hz hl0
      · exact ⟨g, cap, cur, hv, r⟩
    have hgU : g < U := hU g rfl
    have c1 : w.drew.cell? ⟨b, 1, none⟩ = some (.slice (some ⟨g, 0, none⟩) l.length cap) := by rw [hbk.drew.cell]; rfl
    have hSD : (Builtin.unsafeSliceData_ #[42] 180 #[.slice (some ⟨g, 0, none⟩) l.length cap]).run Tryd.prog w.drew = .ok (.pointer (some ⟨g, 0, none⟩)) w.drew :=
      Lib.run_unsafeSliceData_row _ _ _ _ _ _ (by omega)
    have hUS : (Builtin.unsafeString_ #[180, 3] 9 #[.pointer (some ⟨g, 0, none⟩), .int .i64 l.length]).run Tryd.prog w.drew = .ok (.string ⟨l.toArray⟩) (w.drew.freeze ⟨g, 0, none⟩ l.length) := by
      refine Lib.run_unsafeString_row w.drew 180 3 9 5 Tryd.underlying180 (by kernel_rfl) g cur.size (by have hg' : w.drew.heap[g]? = some (.cells cur 5 (0, 0)) := hg; simp [World.shape?, hg']) l h0 (by omega) (by unfold maxLen at hcm; omega) ?_
      intro j x hx
      exact hown.cells (g := g) rfl j (.int .u8 x.toNat) (by simp [Lib.byteCells, hx])
    have hF : Hid (Fz R U w (w.drew.freeze ⟨g, 0, none⟩ l.length)) := by
      unfold World.freeze
      split
      · exact ⟨rfl, rfl, rfl, rfl, fun _ _ => rfl⟩
      · exact ⟨rfl, rfl, rfl, by simp, fun k hk => by
          simp only [Array.getElem?_modify]
          rw [if_neg (by omega)]; rfl⟩
    clear hown hg hcs htake hU
    go_enter Tryd.func71, Tryd.ntmps71
    go_wp2
    go_region
    all_goals (go_wp2; go_ret; exact ⟨rfl, hF.out⟩)
end Go.Proofs.YtefkglmdkjkbiaaDoor
