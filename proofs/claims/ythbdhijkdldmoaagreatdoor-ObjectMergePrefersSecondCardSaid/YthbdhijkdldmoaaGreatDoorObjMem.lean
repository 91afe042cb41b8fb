/- Objects as they lie in memory. The walks of strings.Builder's copyCheck, WriteByte and WriteString at this seat's dump (the library's worked proofs, turned to it). A builder of a call's own, what it holds; its methods. -/
import Derived.Test.YthbdhijkdldmoaaGreatDoorTokPlain
import Derived.Test.YthbdhijkdldmoaaGreatDoorKit
import Derived.Lib.Builder
import Derived.Lib.AppendStr
import Derived.Laws.Externs
import Derived.Test.YthbdhijkdldmoaaGreatDoorProg
import Derived.Deep.QuietTactic
import Derived.RegionTactic
import Derived.Deep.RegionWith
import Derived.StillTailTactics
import Derived.BigRegion
import Derived.Lib.UnsafeStr
namespace Go.Proofs.YthbdhijkdldmoaaGreatDoor
open Go.RowKit Tk Ob
/-- A slice value whose n elements lie as the cells xs, in a block of which ok is known. -/
def SlM (w : World) (ok : Nat → Prop) (v : Value) (n : Nat) (xs : List Value) : Prop :=
  ∃ A cap, v = .slice A n cap ∧ n ≤ cap ∧ cap ≤ maxLen ∧
    (0 < n → ∃ b off, A = some ⟨b, off, none⟩ ∧ ok b ∧ b < w.heap.size ∧ ∀ k u, xs[k]? = some u → w.cell? ⟨b, off + k, none⟩ = some u)
section
variable {w w' : World} {ok ok' : Nat → Prop} {v : Value} {n : Nat} {xs : List Value}
theorem SlM.nil (w : World) (ok : Nat → Prop) : SlM w ok (.slice none 0 0) 0 xs := ⟨none, 0, rfl, Nat.le_refl _, by simp, fun h => absurd h (by simp)⟩
theorem SlM.mono (h : SlM w ok v n xs) (hk : ∀ b, b < w.heap.size → ok b → ok' b) : SlM w ok' v n xs := by
  obtain ⟨A, cap, hv, h1, h2, h3⟩ := h
  exact ⟨A, cap, hv, h1, h2, fun hn => by obtain ⟨b, off, ha, hb, hl, hc⟩ := h3 hn; exact ⟨b, off, ha, hk _ hl hb, hl, hc⟩⟩
theorem SlM.keep (h : SlM w ok v n xs) (hs : w.heap.size ≤ w'.heap.size) (hk : ∀ b, ok b → b < w.heap.size → w'.heap[b]? = w.heap[b]?) : SlM w' ok v n xs := by
  obtain ⟨A, cap, hv, h1, h2, h3⟩ := h
  refine ⟨A, cap, hv, h1, h2, fun hn => ?_⟩
  obtain ⟨b, off, ha, hb, hl, hc⟩ := h3 hn
  refine ⟨b, off, ha, hb, Nat.lt_of_lt_of_le hl hs, fun i u hu => ?_⟩
  rw [World.cell?_of_block (w := w) (a := ⟨b, off + i, none⟩) (hk _ hb hl)]
  exact hc i u hu
theorem SlM.drewN (h : SlM w ok v n xs) (k : Nat) : SlM (w.drewN k) ok v n xs := h
theorem SlM.drew (h : SlM w ok v n xs) : SlM w.drew ok v n xs := h
theorem SlM.alloc (h : SlM w ok v n xs) (o : Obj) : SlM (w.alloc o) ok v n xs := h.keep (by simp) fun b _ hl => Below.heap_alloc w o b hl
theorem SlM.later (h : SlM w ok v n xs) (hb : Below w.heap.size w w') : SlM w' ok v n xs := h.keep hb.size fun b _ hl => hb.block b hl
theorem SlM.below {B : Nat} (h : SlM w ok v n xs) (hb : Below B w w') (hB : ∀ b, ok b → b < w.heap.size → b < B) : SlM w' ok v n xs := h.keep hb.size fun b ho hl => hb.block b (hB b ho hl)
theorem SlM.grown {row : Option Nat} (h : SlM w ok v n xs) (hb : w.grownBy w' row) (hr : ∀ b, ok b → some b ≠ row) : SlM w' ok v n xs := h.keep hb.size fun b ho hl => hb.block b hl (hr b ho)
theorem SlM.far (h : SlM w ok v n xs) {p : Addr} (hp : ¬ ok p.block) (u : Value) : SlM (w.setCell p u) ok v n xs :=
  h.keep (by simp [World.setCell]) fun b ho _ => Below.heap_setCell w p u b (fun e => hp (e ▸ ho))
theorem SlM.form (h : SlM w ok v n xs) : ∃ A cap, v = .slice A n cap := by obtain ⟨A, cap, hv, _⟩ := h; exact ⟨A, cap, hv⟩
theorem SlM.caps {A : Option Addr} {m c : Nat} (h : SlM w ok (.slice A m c) n xs) : m = n ∧ n ≤ c ∧ c ≤ maxLen := by
  obtain ⟨A', cap, hv, h1, h2, _⟩ := h
  injection hv with _ hn hc
  subst hn; subst hc
  exact ⟨rfl, h1, h2⟩
theorem SlM.open_ (h : SlM w ok v n xs) (hn : 0 < n) : ∃ b off cap, v = .slice (some ⟨b, off, none⟩) n cap ∧ ok b ∧ b < w.heap.size ∧ n ≤ cap ∧ cap ≤ maxLen ∧ ∀ k u, xs[k]? = some u → w.cell? ⟨b, off + k, none⟩ = some u := by
  obtain ⟨A, cap, hv, h1, h2, h3⟩ := h
  obtain ⟨b, off, rfl, hb, hl, hc⟩ := h3 hn
  exact ⟨b, off, cap, hv, hb, hl, h1, h2, hc⟩
theorem SlM.addr {A : Option Addr} {m c : Nat} (h : SlM w ok (.slice A m c) n xs) (hn : 0 < n) : ∃ b off, A = some ⟨b, off, none⟩ ∧ ok b ∧ b < w.heap.size ∧ ∀ k u, xs[k]? = some u → w.cell? ⟨b, off + k, none⟩ = some u := by
  obtain ⟨b, off, cap, hv, hb, hl, _, _, hc⟩ := h.open_ hn
  injection hv with hA
  exact ⟨b, off, hA, hb, hl, hc⟩
theorem SlM.of_own {base : Nat} {e : TypeId} {size : Nat} (h : w.ownsRow base e size v n xs) : SlM w (fun b => some b = v.ownBlock ∧ base ≤ b) v n xs := by
  obtain ⟨hl, h⟩ := h
  rcases h with ⟨rfl, rfl⟩ | ⟨g, cap, cur, rfl, hg, hh, hnc, hcm, hsz', hx⟩
  · exact SlM.nil _ _
  · refine ⟨_, cap, rfl, by omega, hcm, fun hn => ⟨g, 0, rfl, ⟨rfl, hg⟩, ?_, fun i u hu => ?_⟩⟩
    · rcases Nat.lt_or_ge g w.heap.size with hlt | hge
      · exact hlt
      · rw [Array.getElem?_eq_none hge] at hh; cases hh
    · rw [Nat.zero_add, cell_of_row _ _ i _ _ _ hh]
      have hi : i < n * size := by rw [← hl]; exact (List.getElem?_eq_some_iff.1 hu).1
      rw [← hx, List.getElem?_take_of_lt (by omega)] at hu
      simpa using hu
theorem Sl.of_m (h : SlM w ok v n xs) (hx : xs.length = n) : Sl w ok v xs := by
  obtain ⟨A, cap, hv, h1, h2, h3⟩ := h
  refine ⟨A, cap, by rw [hx]; exact hv, by omega, h2, fun hn => ?_⟩
  obtain ⟨b, off, rfl, hb, hl, hc⟩ := h3 (by omega)
  exact ⟨_, rfl, hb, hl, fun i u hu => by rw [add_plain]; exact hc i u hu⟩
end
/-! Elements of m cells each. -/
theorem flat_length {α : Type} {f : α → List Value} {m : Nat} (hf : ∀ a, (f a).length = m) (l : List α) : (l.flatMap f).length = l.length * m := by
  induction l with
  | nil => simp
  | cons x l ih => simp only [List.flatMap_cons, List.length_append, List.length_cons, hf, ih, Nat.add_mul]; omega
theorem flat_at {α : Type} {f : α → List Value} {m : Nat} (hf : ∀ a, (f a).length = m) (d : α) (l : List α) (i j : Nat) (hi : i < l.length) (hj : j < m) : (l.flatMap f)[i * m + j]? = (f (l.getD i d))[j]? := by
  induction l generalizing i with
  | nil => simp at hi
  | cons x l ih =>
    cases i with
    | zero => simp only [List.flatMap_cons]; rw [List.getElem?_append_left (by rw [hf]; omega)]; simp
    | succ i =>
      have := ih i (by simpa using hi)
      simp only [List.flatMap_cons]
      rw [List.getElem?_append_right (by rw [hf, Nat.add_mul]; omega), hf, show (i + 1) * m + j - m = i * m + j by rw [Nat.add_mul]; omega, this]
      rfl
/-- The cells of element i. -/
theorem SlM.elem {α : Type} {f : α → List Value} {m : Nat} (hf : ∀ a, (f a).length = m) (d : α) {w : World} {ok : Nat → Prop} {v : Value} {l : List α} (h : SlM w ok v l.length (l.flatMap f)) (hn : 0 < l.length) :
    ∃ b off cap, v = .slice (some ⟨b, off, none⟩) l.length cap ∧ ok b ∧ b < w.heap.size ∧ l.length ≤ cap ∧ cap ≤ maxLen ∧ ∀ i, i < l.length → ∀ j u, j < m → (f (l.getD i d))[j]? = some u → w.cell? ⟨b, off + i * m + j, none⟩ = some u := by
  obtain ⟨b, off, cap, hv, hb, hl, h1, h2, hc⟩ := SlM.open_ h hn
  refine ⟨b, off, cap, hv, hb, hl, h1, h2, fun i hi j u hj hu => ?_⟩
  rw [Nat.add_assoc]; exact hc _ u ((flat_at hf d l i j hi hj).trans hu)
def strs (l : List Tk.Src) : List Value := l.map fun s => Value.string ⟨s.toArray⟩
/-- The five cells of an object. -/
structure V5 where
  k : Value
  i : Value
  t : Value
  ks : Value
  os : Value
def V5.cells (v : V5) : List Value := [v.k, v.i, v.t, v.ks, v.os]
def V5.val (v : V5) : Value := .agg #[v.k, v.i, v.t, v.ks, v.os]
def v5cs (l : List V5) : List Value := l.flatMap V5.cells
theorem v5len (v : V5) : v.cells.length = 5 := rfl
theorem v5cs_len (l : List V5) : (v5cs l).length = l.length * 5 := flat_length v5len l
theorem v5cs_snoc (l : List V5) (v : V5) : v5cs (l ++ [v]) = v5cs l ++ v.cells := by unfold v5cs; rw [List.flatMap_append]; simp
theorem v5cs_get (l : List V5) (i j : Nat) (hi : i < l.length) (hj : j < 5) : (v5cs l)[i * 5 + j]? = l[i].cells[j]? := by
  have := flat_at (f := V5.cells) v5len l[i] l i j hi hj
  rw [List.getD_eq_getElem?_getD, List.getElem?_eq_getElem hi] at this
  exact this
/-- Five values that read as an object; all its blocks are such as P says. -/
inductive ObjV (P : Nat → Prop) (w : World) : V5 → Ox → Prop
  | mk (k i : Int) (t : Tk.Src) (keys : List Tk.Src) (kids : List Ox) (kv dv : Value) (vs : List V5)
      (hk : Sl w P kv (strs keys)) (hd : SlM w P dv kids.length (v5cs vs)) (hl : vs.length = kids.length)
      (hkid : ∀ j (h : j < kids.length) (h2 : j < vs.length), ObjV P w vs[j] kids[j]) :
      ObjV P w ⟨.int .i64 k, .int .i64 i, .string ⟨t.toArray⟩, kv, dv⟩ (.mk k i t keys kids)
section
variable {P Q : Nat → Prop} {w w' : World} {v : V5} {o : Ox}
theorem ObjV.keep (h : ObjV P w v o) (hs : w.heap.size ≤ w'.heap.size) (hk : ∀ b, P b → b < w.heap.size → w'.heap[b]? = w.heap[b]?) : ObjV P w' v o := by
  induction h with
  | mk k i t keys kids kv dv vs h1 h2 hl hkid ih => exact .mk k i t keys kids kv dv vs (h1.keep hs hk) (h2.keep hs hk) hl ih
theorem ObjV.mono (h : ObjV P w v o) (hk : ∀ b, b < w.heap.size → P b → Q b) : ObjV Q w v o := by
  induction h with
  | mk k i t keys kids kv dv vs h1 h2 hl hkid ih => exact .mk k i t keys kids kv dv vs (h1.mono hk) (h2.mono hk) hl ih
theorem ObjV.later (h : ObjV P w v o) (hb : Below w.heap.size w w') : ObjV P w' v o := h.keep hb.size fun b _ hl => hb.block b hl
theorem ObjV.drew (h : ObjV P w v o) : ObjV P w.drew v o := h.keep (Nat.le_refl _) fun _ _ _ => rfl
theorem ObjV.drewN (h : ObjV P w v o) (n : Nat) : ObjV P (w.drewN n) v o := h.keep (Nat.le_refl _) fun _ _ _ => rfl
theorem ObjV.alloc (h : ObjV P w v o) (ob : Obj) : ObjV P (w.alloc ob) v o := h.keep (by simp) fun b _ hl => Below.heap_alloc w ob b hl
/-- The five values opened. -/
theorem ObjV.open_ (h : ObjV P w v o) : ∃ (kv dv : Value) (vs : List V5), v = ⟨.int .i64 o.kind, .int .i64 o.int, .string ⟨o.text.toArray⟩, kv, dv⟩ ∧ Sl w P kv (strs o.keys) ∧ SlM w P dv o.kids.length (v5cs vs) ∧ vs.length = o.kids.length ∧
    ∀ j (h : j < o.kids.length) (h2 : j < vs.length), ObjV P w vs[j] o.kids[j] := by
  cases h with
  | mk k i t keys kids kv dv vs h1 h2 hl hkid => exact ⟨kv, dv, vs, rfl, h1, h2, hl, hkid⟩
theorem ObjV.shut {k i : Int} {t : Tk.Src} {keys : List Tk.Src} {kids : List Ox} {kv dv : Value} {vs : List V5} (hk : Sl w P kv (strs keys)) (hd : SlM w P dv kids.length (v5cs vs)) (hl : vs.length = kids.length)
    (hkid : ∀ j (h : j < kids.length) (h2 : j < vs.length), ObjV P w vs[j] kids[j]) : ObjV P w ⟨.int .i64 k, .int .i64 i, .string ⟨t.toArray⟩, kv, dv⟩ (.mk k i t keys kids) := .mk k i t keys kids kv dv vs hk hd hl hkid
/-- An object without keys and elements. -/
theorem ObjV.leaf (P : Nat → Prop) (w : World) (k i : Int) (t : Tk.Src) : ObjV P w ⟨.int .i64 k, .int .i64 i, .string ⟨t.toArray⟩, .slice none 0 0, .slice none 0 0⟩ (.mk k i t [] []) :=
  .mk k i t [] [] _ _ [] (Sl.nil _ _) (SlM.nil _ _) rfl fun j h => absurd h (by simp)
end
/-- The cells of an element. -/
theorem v5_at {P : Nat → Prop} {w : World} {A : Option Addr} {n c : Nat} {l : List V5} (h : SlM w P (.slice A n c) l.length (v5cs l)) (hn : 0 < l.length) : ∃ b off, A = some ⟨b, off, none⟩ ∧ P b ∧ b < w.heap.size ∧
    ∀ i (hi : i < l.length), w.cell? ⟨b, off + i * 5, none⟩ = some l[i].k ∧ w.cell? ⟨b, off + i * 5 + 1, none⟩ = some l[i].i ∧ w.cell? ⟨b, off + i * 5 + 2, none⟩ = some l[i].t ∧ w.cell? ⟨b, off + i * 5 + 3, none⟩ = some l[i].ks ∧ w.cell? ⟨b, off + i * 5 + 4, none⟩ = some l[i].os := by
  obtain ⟨b, off, hA, hb, hl, hc⟩ := h.addr hn
  refine ⟨b, off, hA, hb, hl, fun i hi => ?_⟩
  have key : ∀ j u, j < 5 → l[i].cells[j]? = some u → w.cell? ⟨b, off + i * 5 + j, none⟩ = some u := fun j u hj hu => by
    have := hc (i * 5 + j) u (by rw [v5cs_get l i j hi hj]; exact hu)
    rwa [← Nat.add_assoc] at this
  exact ⟨key 0 _ (by omega) rfl, key 1 _ (by omega) rfl, key 2 _ (by omega) rfl, key 3 _ (by omega) rfl, key 4 _ (by omega) rfl⟩
end Go.Proofs.YthbdhijkdldmoaaGreatDoor
namespace Go.Proofs.YthbdhijkdldmoaaGreatDoor
open Go.RowKit
theorem own_not {w : World} {g base n size : Nat} {t e : TypeId} {cs : Array Value} {v : Value} {xs : List Value} (h : Blk w g t cs) (hte : t ≠ e) (hr : w.ownsRow base e size v n xs) : v.ownBlock ≠ some g := by
  rcases hr.2 with ⟨rfl, _⟩ | ⟨g', cap, cur, rfl, _, hh, _⟩
  · simp [Value.ownBlock]
  · intro e'
    obtain rfl : g' = g := by simpa [Value.ownBlock] using e'
    have := (show w.heap[g']? = _ from h).symm.trans hh
    simp at this
    exact hte this.2
/-- Blocks of other types than bytes stay, but for the builder's own. -/
def KeepB (b : Nat) (w w' : World) : Prop := ∀ g t cs, Blk w g t cs → t ≠ 5 → g ≠ b → Blk w' g t cs
theorem KeepB.refl (b : Nat) (w : World) : KeepB b w w := fun _ _ _ h _ _ => h
theorem KeepB.trans {b : Nat} {w a c : World} (h : KeepB b w a) (k : KeepB b a c) : KeepB b w c := fun g t cs hb ht hg => k g t cs (h g t cs hb ht hg) ht hg
theorem KeepB.set {b : Nat} (w : World) (i : Nat) (u : Value) : KeepB b w (w.setCell ⟨b, i, none⟩ u) := fun _ _ _ hb _ hg => hb.far hg u
theorem KeepB.alloc {b : Nat} (w : World) (o : Obj) : KeepB b w (w.alloc o) := fun _ _ _ hb _ _ => hb.alloc o
theorem KeepB.grown {b base n size : Nat} {w w' : World} {v : Value} {xs : List Value} (hr : w.ownsRow base 5 size v n xs) (o : Obj) (hg : (w.alloc o).grownBy w' v.ownBlock) : KeepB b w w' := fun _ _ _ hb ht _ => (hb.alloc o).grown hg (Ne.symm (own_not hb ht hr))
theorem KeepB.grown0 {b base n size : Nat} {w w' : World} {v : Value} {xs : List Value} (hr : w.ownsRow base 5 size v n xs) (hg : w.grownBy w' v.ownBlock) : KeepB b w w' := fun _ _ _ hb ht _ => hb.grown hg (Ne.symm (own_not hb ht hr))
/-- A packer in block b whose bytes lie in blocks from R on. -/
def PB (R b : Nat) (p : Value) (bs : List Value) (w : World) : Prop := ∃ v, Blk w b 77 #[p, v] ∧ w.ownsRow R 5 1 v bs.length bs ∧ v.ownBlock ≠ some b
/-- Nothing below R turns but block b. -/
structure FrX (R b : Nat) (w w' : World) : Prop where
  os : w'.os = w.os
  tape : w'.tape = w.tape
  output : w'.output = w.output
  size : w.heap.size ≤ w'.heap.size
  block : ∀ k, k < R → k ≠ b → w'.heap[k]? = w.heap[k]?
theorem FrX.refl (R b : Nat) (w : World) : FrX R b w w := ⟨rfl, rfl, rfl, Nat.le_refl _, fun _ _ _ => rfl⟩
theorem FrX.trans {R b : Nat} {a w c : World} (h : FrX R b a w) (k : FrX R b w c) : FrX R b a c := ⟨k.os.trans h.os, k.tape.trans h.tape, k.output.trans h.output, Nat.le_trans h.size k.size, fun j hj hb => (k.block j hj hb).trans (h.block j hj hb)⟩
theorem FrX.set (R b : Nat) (w : World) (i : Nat) (u : Value) : FrX R b w (w.setCell ⟨b, i, none⟩ u) := by
  have h := (Below.refl b w).setCell (p := ⟨b, i, none⟩) (Nat.le_refl b) u
  exact ⟨h.os, h.tape, h.output, h.size, fun k _ hk => Below.heap_setCell w ⟨b, i, none⟩ u k hk⟩
theorem FrX.of_below {R B b : Nat} {w w' : World} (h : Below B w w') (hR : R ≤ B) : FrX R b w w' := ⟨h.os, h.tape, h.output, h.size, fun k hk _ => h.block k (by omega)⟩
theorem FrX.of_grown {R b : Nat} {w w' : World} {v : Value} (h : w.grownBy w' v.ownBlock) (hR : R ≤ w.heap.size) (hv : ∀ k, v.ownBlock = some k → R ≤ k) : FrX R b w w' :=
  ⟨h.os, h.tape, h.output, h.size, fun k hk _ => h.block k (by omega) fun e => by have := hv k e.symm; omega⟩
/-- All below B stays where the packer's block is not below B. -/
theorem FrX.below {R b B : Nat} {w w' : World} (h : FrX R b w w') (hB : B ≤ R) (hb : B ≤ b) : Below B w w' := ⟨h.os, h.tape, h.output, h.size, fun k hk => h.block k (by omega) (by omega)⟩
theorem PB.put {R b : Nat} {p v v' : Value} {bs' : List Value} {w : World} (hbk : Blk w b 77 #[p, v]) (hown : w.ownsRow R 5 1 v' bs'.length bs') : PB R b p bs' (w.setCell ⟨b, 1, none⟩ v') := by
  have hne : v'.ownBlock ≠ some b := own_not hbk (by decide) hown
  refine ⟨v', by have := hbk.put 1 v'; simpa using this, own_setCell hown (.inr hne) _, hne⟩
set_option maxRecDepth 100000 in
theorem Builder_copyCheck_used (b : Nat) (w : World) (h0 : w.cell? ⟨b, 0, none⟩ = some (.pointer (some ⟨b, 0, none⟩))) :
    Calls Tryz.prog 67 #[.pointer (some ⟨b, 0, none⟩)] w fun e w' => e = .returned (.tuple #[]) ∧ w' = w := by
  obtain ⟨j, hj, _⟩ := Option.map_eq_some_iff.1 (show (Tryz.prog.info? 77).map (·.size) = some 2 by kernel_rfl)
  go_enter Tryz.func67, Tryz.ntmps67
  go_wp2
  rw [Lib.run_neq_ptr_same w _ Tryz.underlying74 hj]
  go_wp2
  go_end0
  exact ⟨rfl, rfl⟩
set_option maxRecDepth 100000 in
theorem Builder_copyCheck_fresh (b : Nat) (w : World) (h0 : w.cell? ⟨b, 0, none⟩ = some (.pointer none)) (hsh : w.shape? b = some (77, 2)) (hfz : w.frozen? ⟨b, 0, none⟩ = false) :
    Calls Tryz.prog 67 #[.pointer (some ⟨b, 0, none⟩)] w fun e w' => e = .returned (.tuple #[]) ∧ w' = w.setCell ⟨b, 0, none⟩ (.pointer (some ⟨b, 0, none⟩)) := by
  obtain ⟨j, hj, hjs⟩ := Option.map_eq_some_iff.1 (show (Tryz.prog.info? 77).map (·.size) = some 2 by kernel_rfl)
  go_enter Tryz.func67, Tryz.ntmps67
  go_wp2
  rw [Lib.run_to_unsafe w ⟨b, 0, none⟩ Tryz.underlying74 Tryz.underlying113 hj (by rw [hjs]; decide) hsh (Nat.zero_lt_succ 1)]
  simp only [Result.andThen]
  rw [Oper.upon_value]
  go_wp2
  rw [run_callFunc_extern Tryz.func88 (by kernel_rfl) (by kernel_rfl) (by kernel_rfl) (e := Extern.AbiNoEscape.same) (by kernel_rfl)]
  rw [Lib.run_noEscape]
  simp only [Result.andThen]
  rw [Oper.upon_value]
  go_wp2
  rw [Lib.run_from_unsafe w ⟨b, 0, none⟩ Tryz.underlying113 Tryz.underlying74 hj hsh (by kernel_rfl)]
  simp only [Result.andThen]
  rw [Oper.upon_value]
  go_wp2
  go_end0
  exact ⟨rfl, rfl⟩
theorem Builder_copyCheck (R b : Nat) (bs : List Value) (w : World) (h : PB R b (.pointer none) bs w ∨ PB R b (.pointer (some ⟨b, 0, none⟩)) bs w) :
    Calls Tryz.prog 67 #[.pointer (some ⟨b, 0, none⟩)] w fun e w' => e = .returned (.tuple #[]) ∧ (PB R b (.pointer (some ⟨b, 0, none⟩)) bs w' ∧ FrX R b w w') ∧ KeepB b w w' := by
  rcases h with ⟨v, hbk, hown, hne⟩ | ⟨v, hbk, hown, hne⟩
  · have c0 := hbk.cell 0
    have hsh : w.shape? b = some (77, 2) := by have : w.heap[b]? = _ := hbk; simp [World.shape?, this]
    refine (Builder_copyCheck_fresh b w (by simpa using c0) hsh (hbk.frozen 0)).mono ?_
    rintro e w' ⟨rfl, rfl⟩
    exact ⟨rfl, ⟨⟨v, by have := hbk.put 0 (.pointer (some ⟨b, 0, none⟩)); simpa using this, own_setCell hown (.inr hne) _, hne⟩, FrX.set _ _ _ _ _⟩, KeepB.set _ _ _⟩
  · have c0 := hbk.cell 0
    refine (Builder_copyCheck_used b w (by simpa using c0)).mono ?_
    rintro e w' ⟨rfl, rfl⟩
    exact ⟨rfl, ⟨⟨v, hbk, hown, hne⟩, FrX.refl _ _ _⟩, KeepB.refl _ _⟩
set_option maxHeartbeats 2000000 in
theorem Builder_WriteByte (R b : Nat) (bs : List Value) (c : Int) (w : World) (h : PB R b (.pointer none) bs w ∨ PB R b (.pointer (some ⟨b, 0, none⟩)) bs w) (hlen : bs.length + 1 ≤ 140737488355328) (hRw : R ≤ w.heap.size) :
    Calls Tryz.prog 43 #[.pointer (some ⟨b, 0, none⟩), .int .u8 c] w fun e w' => e = .returned .nilIface ∧ (PB R b (.pointer (some ⟨b, 0, none⟩)) (bs ++ [.int .u8 c]) w' ∧ FrX R b w w') ∧ KeepB b w w' := by
  obtain ⟨i0, hi, hz0, hz1, hz2⟩ := info_parts (show (Tryz.prog.info? 5).map (fun i => (i.zero, i.size, i.bytes)) = some (some (.int .u8 0), 1, 1) by kernel_rfl)
  go_enter Tryz.func43, Tryz.ntmps43
  go_wp2_with (go_at_call 67; refine (Builder_copyCheck R b bs _ h).mono ?_)
  rintro e w1 ⟨rfl, ⟨h1, hb1⟩, hkp⟩
  have HKp := Lib.hid hkp
  clear hkp
  obtain ⟨v, hbk, hown, hne⟩ := h1
  have c0 : w1.cell? ⟨b, 0, none⟩ = some (.pointer (some ⟨b, 0, none⟩)) := by rw [hbk.cell]; rfl
  have c1 : w1.cell? ⟨b, 1, none⟩ = some v := by rw [hbk.cell]; rfl
  go_wp2_with (at_builtin; refine wpList_append_own _ rfl _ _ 75 rfl R 5 i0 (.int .u8 0) 1 1 Tryz.underlying75 hi hz0 hz1 hz2 rfl (by decide) _ _ _ rfl (hown.alloc _) ⟨w1.heap.size, 0, none⟩ 1 1 [.int .u8 c] rfl rfl ?c1 ?c2 ?c3 ?c4 ?c5 ?_)
  case c1 =>
    intro j u hj
    match j, hj with
    | 0, hj => simp at hj; subst hj; simp [Addr.add]
  case c2 => intro u hu; simp at hu; subst hu; rfl
  case c3 => unfold maxLen; omega
  case c4 => omega
  case c5 => have := hb1.size; simp; omega
  intro v' w2 hown' hgrow _
  have hlt : b < w1.heap.size := hbk.lt
  have hb2 : Blk w2 b 77 #[.pointer (some ⟨b, 0, none⟩), v] := by
    show w2.heap[b]? = _
    rw [hgrow.block b (by simp; omega) (fun e => hne e.symm), Lib.alloc_old w1 _ b hlt]
    exact hbk
  have d0 : w2.cell? ⟨b, 0, none⟩ = some (.pointer (some ⟨b, 0, none⟩)) := by rw [hb2.cell]; rfl
  have d1 : w2.cell? ⟨b, 1, none⟩ = some v := by rw [hb2.cell]; rfl
  have f1 : w2.frozen? ⟨b, 1, none⟩ = false := hb2.frozen 1
  obtain ⟨g, cap, rfl⟩ : ∃ g cap, v' = .slice (some ⟨g, 0, none⟩) (bs.length + 1) cap := by
    rcases hown'.2 with ⟨_, h0⟩ | ⟨g, cap, cur, hv, _⟩
    · omega
    · exact ⟨g, cap, hv⟩
  go_wp2
  go_ret
  refine ⟨rfl, ⟨?_, ?_⟩, (HKp.out.trans (KeepB.grown hown _ hgrow)).trans (KeepB.set _ _ _)⟩
  · exact PB.put hb2 (by simpa using hown')
  · exact (hb1.trans (FrX.of_below ((Below.refl w1.heap.size w1).alloc (Nat.le_refl _) _) (by have := hb1.size; omega))).trans ((FrX.of_grown hgrow (by have := hb1.size; simp; omega) fun k hk => (hown.lt k hk).1).trans (FrX.set _ _ _ _ _))
set_option maxHeartbeats 2000000 in
theorem Builder_WriteString (R b : Nat) (bs : List Value) (s : ByteArray) (w : World) (h : PB R b (.pointer none) bs w ∨ PB R b (.pointer (some ⟨b, 0, none⟩)) bs w) (hlen : bs.length + s.size ≤ 140737488355328) (hRw : R ≤ w.heap.size) :
    Calls Tryz.prog 44 #[.pointer (some ⟨b, 0, none⟩), .string s] w fun e w' => e = .returned (.tuple #[.int .i64 s.size, .nilIface]) ∧ (PB R b (.pointer (some ⟨b, 0, none⟩)) (bs ++ Lib.strCells s) w' ∧ FrX R b w w') ∧ KeepB b w w' := by
  obtain ⟨i0, hi, hz0, hz1, hz2⟩ := info_parts (show (Tryz.prog.info? 5).map (fun i => (i.zero, i.size, i.bytes)) = some (some (.int .u8 0), 1, 1) by kernel_rfl)
  go_enter Tryz.func44, Tryz.ntmps44
  go_wp2_with (go_at_call 67; refine (Builder_copyCheck R b bs _ h).mono ?_)
  rintro e w1 ⟨rfl, ⟨h1, hb1⟩, hkp⟩
  have HKp := Lib.hid hkp
  clear hkp
  obtain ⟨v, hbk, hown, hne⟩ := h1
  have c0 : w1.cell? ⟨b, 0, none⟩ = some (.pointer (some ⟨b, 0, none⟩)) := by rw [hbk.cell]; rfl
  have c1 : w1.cell? ⟨b, 1, none⟩ = some v := by rw [hbk.cell]; rfl
  go_wp2_with (at_builtin; refine Lib.wpList_append_own_string _ rfl _ _ 75 9 rfl R 5 i0 Tryz.underlying75 Tryz.underlying9 hi hz0 hz1 hz2 _ _ _ rfl hown s rfl ?c3 ?c4 ?c5 ?_)
  case c3 => unfold maxLen; omega
  case c4 => omega
  case c5 => have := hb1.size; omega
  intro v' w2 hown' hgrow _
  have hlt : b < w1.heap.size := hbk.lt
  have hb2 : Blk w2 b 77 #[.pointer (some ⟨b, 0, none⟩), v] := by
    show w2.heap[b]? = _
    rw [hgrow.block b hlt (fun e => hne e.symm)]
    exact hbk
  have d0 : w2.cell? ⟨b, 0, none⟩ = some (.pointer (some ⟨b, 0, none⟩)) := by rw [hb2.cell]; rfl
  have d1 : w2.cell? ⟨b, 1, none⟩ = some v := by rw [hb2.cell]; rfl
  have f1 : w2.frozen? ⟨b, 1, none⟩ = false := hb2.frozen 1
  obtain ⟨ao, n', cap, rfl⟩ : ∃ ao n' cap, v' = .slice ao n' cap := by
    rcases hown'.2 with ⟨hv, _⟩ | ⟨g, cap, cur, hv, _⟩
    · exact ⟨_, _, _, hv⟩
    · exact ⟨_, _, _, hv⟩
  go_wp2
  go_ret2
  refine ⟨rfl, ⟨?_, ?_⟩, (HKp.out.trans (KeepB.grown0 hown hgrow)).trans (KeepB.set _ _ _)⟩
  · exact PB.put hb2 (by simpa [Lib.strCells_length] using hown')
  · exact hb1.trans ((FrX.of_grown hgrow (by have := hb1.size; omega) fun k hk => (hown.lt k hk).1).trans (FrX.set _ _ _ _ _))
end Go.Proofs.YthbdhijkdldmoaaGreatDoor
namespace Go.Proofs.YthbdhijkdldmoaaGreatDoor
open Go.RowKit
theorem byteCells_append (a b : List UInt8) : Lib.byteCells (a ++ b) = Lib.byteCells a ++ Lib.byteCells b := by simp [Lib.byteCells]
theorem strCells_of (l : List UInt8) : Lib.strCells ⟨l.toArray⟩ = Lib.byteCells l := by simp [Lib.strCells, Lib.byteCells]
/-- A builder in block b, whose bytes lie from block R on, holding l. -/
def Pk (R b : Nat) (l : List UInt8) (w : World) : Prop := (PB R b (.pointer none) (Lib.byteCells l) w ∨ PB R b (.pointer (some ⟨b, 0, none⟩)) (Lib.byteCells l) w) ∧ (l = [] → ∃ p, Blk w b 77 #[p, .slice none 0 0])
theorem pk_fresh {R b : Nat} {w : World} (h : Blk w b 77 #[.pointer none, .slice none 0 0]) : Pk R b [] w := ⟨.inl ⟨_, h, World.ownsRow_nil _ _ _ _, by simp [Value.ownBlock]⟩, fun _ => ⟨_, h⟩⟩
theorem PB.keep {R b : Nat} {p : Value} {bs : List Value} {w w' : World} (h : PB R b p bs w) (hk : ∀ k, k < w.heap.size → (k = b ∨ R ≤ k) → w'.heap[k]? = w.heap[k]?) : PB R b p bs w' := by
  obtain ⟨v, hbk, hown, hne⟩ := h
  refine ⟨v, (hk b hbk.lt (.inl rfl)).trans hbk, ?_, hne⟩
  rcases hown with ⟨hl, h⟩
  refine ⟨hl, ?_⟩
  rcases h with h | ⟨g, cap, cur, hv, hg, hh, r⟩
  · exact .inl h
  · refine .inr ⟨g, cap, cur, hv, hg, ?_, r⟩
    rw [hk g ?_ (.inr hg)]; exact hh
    rcases Nat.lt_or_ge g w.heap.size with h | h
    · exact h
    · rw [Array.getElem?_eq_none h] at hh; cases hh
theorem pk_keep {R b : Nat} {l : List UInt8} {w w' : World} (h : Pk R b l w) (hk : ∀ k, k < w.heap.size → (k = b ∨ R ≤ k) → w'.heap[k]? = w.heap[k]?) : Pk R b l w' := by
  obtain ⟨h, h2⟩ := h
  refine ⟨?_, fun e => ?_⟩
  · rcases h with h | h
    · exact .inl (h.keep hk)
    · exact .inr (h.keep hk)
  · obtain ⟨p, hb⟩ := h2 e
    exact ⟨p, (hk b hb.lt (.inl rfl)).trans hb⟩
theorem pk_below {R b : Nat} {l : List UInt8} {w w' : World} (h : Pk R b l w) (hb : Below w.heap.size w w') : Pk R b l w' := pk_keep h (fun k hk _ => hb.block k hk)
/-- Another builder's writing leaves this one. -/
theorem pk_other {R R' b b' : Nat} {l : List UInt8} {w w' : World} (h : Pk R b l w) (hf : FrX R' b' w w') (hR : w.heap.size ≤ R') (hb : b' ≠ b) (hb2 : b' < R) : Pk R b l w' :=
  pk_keep h (fun k hk h2 => hf.block k (by omega) (by rcases h2 with h2 | h2 <;> omega))
theorem pk_byte {R b : Nat} {l : List UInt8} {w : World} (h : Pk R b l w) (c : UInt8) (v : Int) (hv : v = (c.toNat : Int)) (hl : l.length ≤ 10000000) (hB : R ≤ w.heap.size) :
    Calls Tryz.prog 43 #[.pointer (some ⟨b, 0, none⟩), .int .u8 v] w fun e w' => e = .returned .nilIface ∧ Pk R b (l ++ [c]) w' ∧ FrX R b w w' ∧ KeepB b w w' := by
  subst hv
  refine (Builder_WriteByte R b _ _ w h.1 ?_ hB).mono ?_
  · rw [Lib.byteCells_length]; omega
  · rintro e w' ⟨rfl, ⟨h1, h2⟩, h3⟩
    refine ⟨rfl, ?_, h2, h3⟩
    rw [show [Value.int .u8 (c.toNat : Int)] = Lib.byteCells [c] from rfl, ← byteCells_append] at h1
    exact ⟨.inr h1, fun e => by simp at e⟩
theorem pk_write {R b : Nat} {l : List UInt8} {w : World} (h : Pk R b l w) (t : ByteArray) (hl : l.length + t.size ≤ 10000000) (hB : R ≤ w.heap.size) (hne : l ++ t.data.toList ≠ []) :
    Calls Tryz.prog 44 #[.pointer (some ⟨b, 0, none⟩), .string t] w fun e w' => e = .returned (.tuple #[.int .i64 t.size, .nilIface]) ∧ Pk R b (l ++ t.data.toList) w' ∧ FrX R b w w' ∧ KeepB b w w' := by
  refine (Builder_WriteString R b _ t w h.1 ?_ hB).mono ?_
  · rw [Lib.byteCells_length]; omega
  · rintro e w' ⟨rfl, ⟨h1, h2⟩, h3⟩
    refine ⟨rfl, ?_, h2, h3⟩
    rw [show Lib.strCells t = Lib.byteCells t.data.toList from strCells_of t.data.toList, ← byteCells_append] at h1
    exact ⟨.inr h1, fun e => absurd e hne⟩
set_option maxRecDepth 100000 in
/-- The bytes as a string. -/
theorem pk_string {R b : Nat} {l : List UInt8} {w : World} (h : Pk R b l w) : Calls Tryz.prog 46 #[.pointer (some ⟨b, 0, none⟩)] w fun e w' => e = .returned (.string ⟨l.toArray⟩) ∧ FrX R b w w' := by
  by_cases h0 : l = []
  · subst h0
    obtain ⟨p, hbk⟩ := h.2 rfl
    have hUS : ∀ W, (Builtin.unsafeString_ #[100, 3] 9 #[.pointer none, .int .i64 0]).run Tryz.prog W = .ok (.string .empty) W := fun W => Lib.run_unsafeString_none W _ _ _ none
    have c1 : w.drew.cell? ⟨b, 1, none⟩ = some (.slice none 0 0) := by rw [hbk.drew.cell]; rfl
    have hSD : (Builtin.unsafeSliceData_ #[75] 100 #[.slice none 0 0]).run Tryz.prog w.drew = .ok (.pointer none) w.drew := rfl
    go_enter Tryz.func46, Tryz.ntmps46
    go_wp2
    go_region
    all_goals (go_wp2; go_ret; exact ⟨rfl, FrX.of_below (B := R) (Below.drew (Below.refl R w)) (Nat.le_refl _)⟩)
  · obtain ⟨p, v, hbk, hown, hne⟩ : ∃ p, PB R b p (Lib.byteCells l) w := by
      rcases h.1 with h | h
      · exact ⟨_, h⟩
      · exact ⟨_, h⟩
    have hl0 : l.length ≠ 0 := by simpa using h0
    rw [Lib.byteCells_length] at hown
    obtain ⟨g, cap, cur, rfl, hbg, hg, hnc, hcm, hcs, htake⟩ : ∃ g cap cur, v = .slice (some ⟨g, 0, none⟩) l.length cap ∧ R ≤ g ∧ w.heap[g]? = some (.cells cur 5 (0, 0)) ∧ l.length ≤ cap ∧ cap ≤ maxLen ∧ cur.size = cap * 1 ∧ cur.toList.take (l.length * 1) = Lib.byteCells l := by
      rcases hown.2 with ⟨_, hz⟩ | ⟨g, cap, cur, hv, r⟩
      · exact absurd hz hl0
      · exact ⟨g, cap, cur, hv, r⟩
    have c1 : w.drew.cell? ⟨b, 1, none⟩ = some (.slice (some ⟨g, 0, none⟩) l.length cap) := by rw [hbk.drew.cell]; rfl
    have hSD : (Builtin.unsafeSliceData_ #[75] 100 #[.slice (some ⟨g, 0, none⟩) l.length cap]).run Tryz.prog w.drew = .ok (.pointer (some ⟨g, 0, none⟩)) w.drew :=
      Lib.run_unsafeSliceData_row _ _ _ _ _ _ (by omega)
    have hUS : (Builtin.unsafeString_ #[100, 3] 9 #[.pointer (some ⟨g, 0, none⟩), .int .i64 l.length]).run Tryz.prog w.drew = .ok (.string ⟨l.toArray⟩) (w.drew.freeze ⟨g, 0, none⟩ l.length) := by
      refine Lib.run_unsafeString_row w.drew 100 3 9 5 Tryz.underlying100 (by kernel_rfl) g cur.size (by have hg' : w.drew.heap[g]? = some (.cells cur 5 (0, 0)) := hg; simp [World.shape?, hg']) l h0 (by omega) (by unfold maxLen at hcm; omega) ?_
      intro j x hx
      exact hown.cells (g := g) rfl j (.int .u8 x.toNat) (by simp [Lib.byteCells, hx])
    have hF : Hid (FrX R b w (w.drew.freeze ⟨g, 0, none⟩ l.length)) := FrX.of_below (B := R) (Lib.below_freeze (Below.drew (Below.refl R w)) (p := ⟨g, 0, none⟩) hbg _) (Nat.le_refl _)
    clear h hown hg hcs htake hne
    go_enter Tryz.func46, Tryz.ntmps46
    go_wp2
    go_region
    all_goals (go_wp2; go_ret; exact ⟨rfl, hF.out⟩)
set_option maxRecDepth 100000 in
/-- How many bytes. -/
theorem pk_len {R b : Nat} {l : List UInt8} {w : World} (h : Pk R b l w) : Calls Tryz.prog 45 #[.pointer (some ⟨b, 0, none⟩)] w fun e w' => e = .returned (.int .i64 l.length) ∧ w = w' := by
  obtain ⟨p, v, hbk, hown, hne⟩ : ∃ p, PB R b p (Lib.byteCells l) w := by
    rcases h.1 with h | h
    · exact ⟨_, h⟩
    · exact ⟨_, h⟩
  rw [Lib.byteCells_length] at hown
  obtain ⟨A, c, rfl⟩ := own_form hown
  have c1 : w.cell? ⟨b, 1, none⟩ = some (.slice A l.length c) := by rw [hbk.cell]; rfl
  clear h hown hne
  generalize l.length = n at *
  go_enter Tryz.func45, Tryz.ntmps45
  go_wp2
  go_ret
  exact ⟨rfl, rfl⟩
end Go.Proofs.YthbdhijkdldmoaaGreatDoor
