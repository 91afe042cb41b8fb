/- The walks of letters and fonts: a font that the laws try first. -/
import Derived.Test.YtefkglmdkjkbiaaDoorFntEnc
import Derived.Test.YtefkglmdkjkbiaaDoorFntPls
namespace Go.Proofs.YtefkglmdkjkbiaaDoor
open Go.RowKit Fnt
theorem slM_blk {w : World} {b : Nat} {t : TypeId} {cs : Array Value} {ok : Nat → Prop} {n : Nat} {xs : List Value} (h : Blk w b t cs) (hx : cs.toList = xs) (hb : ok b) (hn : n ≤ 1000) : SlM w ok (.slice (some ⟨b, 0, none⟩) n n) n xs := by
  refine ⟨_, n, rfl, Nat.le_refl _, by unfold maxLen; omega, fun _ => ⟨b, 0, rfl, hb, h.lt, fun k u hu => ?_⟩⟩
  rw [Nat.zero_add, h.cell k, ← hu, ← hx]; simp
def sqL : List Pt := [⟨0, 0, true⟩, ⟨8, 0, true⟩, ⟨8, 8, true⟩, ⟨0, 8, true⟩]
/-- The font of two letters. -/
def LET : Font := ⟨16, [⟨4, [], []⟩, ⟨10, [sqL], []⟩, ⟨6, [], []⟩], [⟨97, 98, 1⟩], []⟩
def LetPost (w : World) (e : Ending) (w' : World) : Prop := ∃ v, e = .returned v ∧ FntV w' (fun b => w.heap.size ≤ b) v LET ∧ Below w.heap.size w w'
theorem cons_nil (w : World) (ok : Nat → Prop) : Cons w ok (.slice none 0 0) [] := ⟨fun _ => .nilIface, SlM.nil _ _, fun i hi => absurd hi (by simp)⟩
theorem let_fnt (w : World) (B : Nat) (h1 : Blk w (B + 1) 64 #[.int .i64 0, .int .i64 0, .bool true, .int .i64 8, .int .i64 0, .bool true, .int .i64 8, .int .i64 8, .bool true, .int .i64 0, .int .i64 8, .bool true])
    (h2 : Blk w (B + 1 + 1) 61 #[.slice (some ⟨B + 1, 0, none⟩) 4 4])
    (h3 : Blk w (B + 1 + 1 + 1) 84 #[.int .i64 4, .slice none 0 0, .slice none 0 0, .int .i64 10, .slice (some ⟨B + 1 + 1, 0, none⟩) 1 1, .slice none 0 0, .int .i64 6, .slice none 0 0, .slice none 0 0])
    (h4 : Blk w (B + 1 + 1 + 1 + 1) 49 #[.int .i64 97, .int .i64 98, .int .i64 1]) :
    FntV w (fun b => B ≤ b) (.agg #[.int .i64 16, .slice (some ⟨B + 1 + 1 + 1, 0, none⟩) 3 3, .slice (some ⟨B + 1 + 1 + 1 + 1, 0, none⟩) 1 1, .slice none 0 0]) LET := by
  refine ⟨_, _, _, rfl, ⟨fun i => if i = 1 then (.slice (some ⟨B + 1 + 1, 0, none⟩) 1 1, .slice none 0 0) else (.slice none 0 0, .slice none 0 0), slM_blk h3 rfl (by omega) (by decide), fun i hi => ?_⟩, slM_blk h4 rfl (by omega) (by decide), SlM.nil _ _⟩
  rcases (show i = 0 ∨ i = 1 ∨ i = 2 by have : i < 3 := hi; omega) with rfl | rfl | rfl
  · exact ⟨cons_nil _ _, SlM.nil _ _⟩
  · refine ⟨⟨fun _ => .slice (some ⟨B + 1, 0, none⟩) 4 4, slM_blk h2 rfl (by omega) (by decide), fun j hj => ?_⟩, SlM.nil _ _⟩
    obtain rfl : j = 0 := by have : j < 1 := hj; omega
    exact slM_blk h1 rfl (by omega) (by decide)
  · exact ⟨cons_nil _ _, SlM.nil _ _⟩
set_option maxRecDepth 100000 in
set_option maxHeartbeats 4000000 in
theorem letters_any (w : World) : Calls Tryd.prog 19 #[] w (LetPost w) := by
  have HP : Hid (∀ v w', FntV w' (fun b => w.heap.size ≤ b) v LET → Below w.heap.size w w' → LetPost w (.returned v) w') := fun v w' h1 h2 => ⟨v, rfl, h1, h2⟩
  generalize LetPost w = Q at *
  go_enter Tryd.func19, Tryd.ntmps19
  go_wp2
  refine bodyPost_ret (v := .agg #[.int .i64 16, .slice (some ⟨w.heap.size + 1 + 1 + 1, 0, none⟩) 3 3, .slice (some ⟨w.heap.size + 1 + 1 + 1 + 1, 0, none⟩) 1 1, .slice none 0 0]) (by simp [results, Tryd.results19, go_sem]) rfl (HP.out _ _ ?_ ?_)
  · have a1 := fun cs => Blk.new (w.alloc cs) 64 #[.int .i64 0, .int .i64 0, .bool true, .int .i64 8, .int .i64 0, .bool true, .int .i64 8, .int .i64 8, .bool true, .int .i64 0, .int .i64 8, .bool true]
    have a2 := fun c1 c2 => Blk.new ((w.alloc c1).alloc c2) 61 #[.slice (some ⟨w.heap.size + 1, 0, none⟩) 4 4]
    have a3 := fun c1 c2 c3 => Blk.new (((w.alloc c1).alloc c2).alloc c3) 84 #[.int .i64 4, .slice none 0 0, .slice none 0 0, .int .i64 10, .slice (some ⟨w.heap.size + 1 + 1, 0, none⟩) 1 1, .slice none 0 0, .int .i64 6, .slice none 0 0, .slice none 0 0]
    have a4 := fun c1 c2 c3 c4 => Blk.new ((((w.alloc c1).alloc c2).alloc c3).alloc c4) 49 #[.int .i64 97, .int .i64 98, .int .i64 1]
    simp only [alloc_size] at a1 a2 a3 a4
    exact let_fnt _ w.heap.size ((((a1 _).alloc _).alloc _).alloc _) (((a2 _ _).alloc _).alloc _) ((a3 _ _ _).alloc _) (a4 _ _ _ _)
  · exact (((((Below.refl w.heap.size w).alloc (Nat.le_refl _) _).alloc (by simp) _).alloc (by simp; omega) _).alloc (by simp; omega) _).alloc (by simp; omega) _
theorem let_check : checkE LET = 0 := by decide +kernel
theorem let_wid : wid LET (gls LET [97, 98, 97]) 3 = 26 := by decide +kernel
theorem let_head : ∃ r, Fnt.written LET = [102, 111, 110, 116, 0, 16, 3, 1, 0] ++ r := ⟨_, by unfold Fnt.written Fnt.head; rfl⟩
end Go.Proofs.YtefkglmdkjkbiaaDoor
