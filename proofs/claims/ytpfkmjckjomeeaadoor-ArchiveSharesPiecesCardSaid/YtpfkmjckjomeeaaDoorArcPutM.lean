/- What Put has in memory. -/
import Derived.Test.YtpfkmjckjomeeaaDoorArcKeep
import Derived.Test.YtpfkmjckjomeeaaDoorTailHeld
namespace Go.Proofs.YtpfkmjckjomeeaaDoor
open Go.RowKit Arc
open Go.Maps (Keyed)
theorem keysV_snoc (l : List (BitVec 32 × Nat)) (k : BitVec 32) (i : Nat) : keysV (l ++ [(k, i)]) = keysV l ++ [.int .u32 (k.toNat : Int)] := by simp [keysV]
theorem atsV_snoc (l : List (BitVec 32 × Nat)) (k : BitVec 32) (i : Nat) : atsV (l ++ [(k, i)]) = atsV l ++ [.int .i64 (i : Int)] := by simp [atsV]
/-- Rows of different types are different blocks. -/
theorem own_apart {w : World} {b1 b2 n1 n2 : Nat} {t1 t2 : TypeId} {v1 v2 : Value} {x1 x2 : List Value} (h1 : w.ownsRow b1 t1 1 v1 n1 x1) (h2 : w.ownsRow b2 t2 1 v2 n2 x2) (ht : t1 ≠ t2) {b : Nat} (hb : v1.ownBlock = some b) : v2.ownBlock ≠ some b := fun e => by
  obtain ⟨c1, e1⟩ := own_type h1 hb
  obtain ⟨c2, e2⟩ := own_type h2 e
  rw [e1] at e2; injection e2 with e2; injection e2 with _ e3; exact ht e3
theorem less_irrefl (a : ByteArray) : less a a = false := by
  unfold less
  generalize a.data.toList = l
  induction l with
  | nil => rfl
  | cons a r ih => simp [Op.bytesLess, ih]
structure PuM (B A : Nat) (V0 : AV) (w0 : World) (E : Nat) (vl : Value) (ll : List Nat) (sz : Nat) (S : St) (V : AV) (vk va : Value) (ks : List (BitVec 32 × Nat)) (w : World) : Prop where
  am : AM B A S V w
  fr : Fr (Fp A V0) w0 w
  fn : ∀ b, Fp A V b → Fp A V0 b ∨ w0.heap.size ≤ b
  be : Blk w E 62 #[vk, va, .int .i64 sz]
  ok : w.ownsRow (E + 1) 63 1 vk ks.length (keysV ks)
  oa : w.ownsRow (E + 1) 3 1 va ks.length (atsV ks)
  ol : w.ownsRow w0.heap.size 3 1 vl ll.length (nats ll)
  la : ∀ b, vl.ownBlock = some b → b < E
  hE : w0.heap.size ≤ E
  zE : 0 < E
  tb : Tab w
  hB : 1 ≤ B
  ne : ∀ x ∈ S.nm, ∀ vk va, V.ev x.1 = .agg #[vk, va, .int .i64 x.2.size] → ∀ b, (vk.ownBlock = some b ∨ va.ownBlock = some b) → b < w0.heap.size
section
variable {B A : Nat} {V0 : AV} {w0 : World} {E : Nat} {vl : Value} {ll : List Nat} {sz : Nat} {S S1 : St} {V V1 : AV} {vk va : Value} {ks : List (BitVec 32 × Nat)} {w w1 : World}
theorem tab_keep {ok : Nat → Prop} (hT : Tab w) (h : Fr ok w w1) (hk : ¬ ok 0) (h0 : 0 < w.heap.size) : Tab w1 := fun i hi => (World.cell?_of_block (w := w) (a := ⟨0, i, none⟩) (h.blk 0 h0 hk)).trans (hT i hi)
theorem PuM.fp0 (h : PuM B A V0 w0 E vl ll sz S V vk va ks w) : ¬ Fp A V 0 := fun e => by have := (h.am.fp_lt e).1; have := h.hB; omega
theorem PuM.later (h : PuM B A V0 w0 E vl ll sz S V vk va ks w) (hb : Below w.heap.size w w1) : PuM B A V0 w0 E vl ll sz S V vk va ks w1 :=
  ⟨h.am.later hb, h.fr.then hb, h.fn, h.be.below hb h.be.lt, own_below h.ok hb, own_below h.oa hb, own_below h.ol hb, h.la, h.hE, h.zE, tab_keep (ok := fun _ => False) h.tb (.of_below hb) id (by have := h.be.lt; omega), h.hB, h.ne⟩
/-- A piece is kept. -/
theorem PuM.kept (h : PuM B A V0 w0 E vl ll sz S V vk va ks w) (ha : AM B A S1 V1 w1) (hf : Fr (Fp A V) w w1) (hn : ∀ b, Fp A V1 b → Fp A V b ∨ w.heap.size ≤ b) (hnm : S1.nm = S.nm) (hev : V1.ev = V.ev) : PuM B A V0 w0 E vl ll sz S1 V1 vk va ks w1 := by
  have hrow : ∀ {t : TypeId} {n : Nat} {base : Nat} {v : Value} {xs : List Value}, t ≠ 58 → t ≠ 9 → w.ownsRow base t 1 v n xs → w1.ownsRow base t 1 v n xs := fun h1 h2 ho => hf.own ho fun b hb => by
    obtain ⟨cs, hc⟩ := own_type ho hb
    exact h.am.not_fp hc h1 h2
  refine ⟨ha, h.fr.trans hf fun b hl e => ?_, fun b e => ?_, hf.Blk h.be ?_, hrow (by decide) (by decide) h.ok, hrow (by decide) (by decide) h.oa, hrow (by decide) (by decide) h.ol, h.la, h.hE, h.zE, tab_keep h.tb hf h.fp0 (by have := h.be.lt; omega), h.hB, by rw [hnm, hev]; exact h.ne⟩
  · rcases h.fn b e with e2 | e2
    · exact e2
    · omega
  · rcases hn b e with e2 | e2
    · exact h.fn b e2
    · right; have := h.fr.size; omega
  · have hb := h.be; unfold Blk at hb
    exact h.am.not_fp hb (by decide) (by decide)
end
/-- Two rows of an entry, on the way of being appended to. -/
structure E0 (E : Nat) (w1 : World) (vk va : Value) (n : Nat) (xk xa : List Value) (w : World) : Prop where
  ok : w.ownsRow (E + 1) 63 1 vk n xk
  oa : w.ownsRow (E + 1) 3 1 va n xa
  fr : Fr (fun b => vk.ownBlock = some b ∨ va.ownBlock = some b) w1 w
/-- The keys are appended to already. -/
structure E1K (E : Nat) (w1 : World) (vk va : Value) (n : Nat) (xk xa : List Value) (k : Value) (vk' : Value) (w : World) : Prop where
  ok : w.ownsRow (E + 1) 63 1 vk' (n + 1) (xk ++ [k])
  oa : w.ownsRow (E + 1) 3 1 va n xa
  fr : Fr (fun b => vk.ownBlock = some b ∨ va.ownBlock = some b) w1 w
structure E1A (E : Nat) (w1 : World) (vk va : Value) (n : Nat) (xk xa : List Value) (a : Value) (va' : Value) (w : World) : Prop where
  ok : w.ownsRow (E + 1) 63 1 vk n xk
  oa : w.ownsRow (E + 1) 3 1 va' (n + 1) (xa ++ [a])
  fr : Fr (fun b => vk.ownBlock = some b ∨ va.ownBlock = some b) w1 w
structure E2 (E : Nat) (w1 : World) (vk va : Value) (n : Nat) (xk xa : List Value) (k a : Value) (vk' va' : Value) (w : World) : Prop where
  ok : w.ownsRow (E + 1) 63 1 vk' (n + 1) (xk ++ [k])
  oa : w.ownsRow (E + 1) 3 1 va' (n + 1) (xa ++ [a])
  fr : Fr (fun b => vk.ownBlock = some b ∨ va.ownBlock = some b) w1 w
section
variable {E : Nat} {w1 w w2 : World} {vk va vk' va' : Value} {n : Nat} {xk xa : List Value} {k a : Value}
theorem E0.alloc (h : E0 E w1 vk va n xk xa w) (o : Obj) : E0 E w1 vk va n xk xa (w.alloc o) :=
  ⟨h.ok.alloc o, h.oa.alloc o, h.fr.then ((Below.refl _ _).alloc (Nat.le_refl _) o)⟩
theorem E1K.alloc (h : E1K E w1 vk va n xk xa k vk' w) (o : Obj) : E1K E w1 vk va n xk xa k vk' (w.alloc o) :=
  ⟨h.ok.alloc o, h.oa.alloc o, h.fr.then ((Below.refl _ _).alloc (Nat.le_refl _) o)⟩
theorem E1A.alloc (h : E1A E w1 vk va n xk xa a va' w) (o : Obj) : E1A E w1 vk va n xk xa a va' (w.alloc o) :=
  ⟨h.ok.alloc o, h.oa.alloc o, h.fr.then ((Below.refl _ _).alloc (Nat.le_refl _) o)⟩
theorem E0.pushK (h : E0 E w1 vk va n xk xa w) (ho : w2.ownsRow (E + 1) 63 1 vk' (n + 1) (xk ++ [k])) (hg : w.grownBy w2 vk.ownBlock) : E1K E w1 vk va n xk xa k vk' w2 := by
  refine ⟨ho, ?_, h.fr.trans (Fr.of_grown (ok := fun b => vk.ownBlock = some b ∨ va.ownBlock = some b) hg fun b e => .inl e) fun _ _ e => e⟩
  refine (Fr.of_grown (ok := fun b => vk.ownBlock = some b) hg fun b e => e).own h.oa fun b hb e => ?_
  exact own_apart h.oa h.ok (by decide) hb e
theorem E0.pushA (h : E0 E w1 vk va n xk xa w) (ho : w2.ownsRow (E + 1) 3 1 va' (n + 1) (xa ++ [a])) (hg : w.grownBy w2 va.ownBlock) : E1A E w1 vk va n xk xa a va' w2 := by
  refine ⟨?_, ho, h.fr.trans (Fr.of_grown (ok := fun b => vk.ownBlock = some b ∨ va.ownBlock = some b) hg fun b e => .inr e) fun _ _ e => e⟩
  refine (Fr.of_grown (ok := fun b => va.ownBlock = some b) hg fun b e => e).own h.ok fun b hb e => ?_
  exact own_apart h.ok h.oa (by decide) hb e
theorem E1A.pushK (h : E1A E w1 vk va n xk xa a va' w) (ho : w2.ownsRow (E + 1) 63 1 vk' (n + 1) (xk ++ [k])) (hg : w.grownBy w2 vk.ownBlock) : E2 E w1 vk va n xk xa k a vk' va' w2 := by
  refine ⟨ho, ?_, h.fr.trans (Fr.of_grown (ok := fun b => vk.ownBlock = some b ∨ va.ownBlock = some b) hg fun b e => .inl e) fun _ _ e => e⟩
  refine (Fr.of_grown (ok := fun b => vk.ownBlock = some b) hg fun b e => e).own h.oa fun b hb e => ?_
  exact own_apart h.oa h.ok (by decide) hb e
theorem E1K.pushA (h : E1K E w1 vk va n xk xa k vk' w) (ho : w2.ownsRow (E + 1) 3 1 va' (n + 1) (xa ++ [a])) (hg : w.grownBy w2 va.ownBlock) : E2 E w1 vk va n xk xa k a vk' va' w2 := by
  refine ⟨?_, ho, h.fr.trans (Fr.of_grown (ok := fun b => vk.ownBlock = some b ∨ va.ownBlock = some b) hg fun b e => .inr e) fun _ _ e => e⟩
  refine (Fr.of_grown (ok := fun b => va.ownBlock = some b) hg fun b e => e).own h.ok fun b hb e => ?_
  exact own_apart h.ok h.oa (by decide) hb e
end
theorem new_at0 (w : World) (u : Value) (t : TypeId) : (w.drew.alloc (.cells #[u] t)).cell? ⟨w.heap.size, 0, none⟩ = some u := new_one w.drew u t
theorem new_at01 (w : World) (u : Value) (t : TypeId) (o : Obj) : ((w.drew.alloc (.cells #[u] t)).alloc o).cell? ⟨w.heap.size, 0, none⟩ = some u := ((Blk.new w.drew t #[u]).alloc o).cell 0
theorem new_at1 (w : World) (u : Value) (t : TypeId) (o : Obj) : ((w.drew.alloc o).alloc (.cells #[u] t)).cell? ⟨w.heap.size + 1, 0, none⟩ = some u := by
  have := new_one (w.drew.alloc o) u t
  rw [World.size_alloc] at this; exact this
/-! The appends as steps of a region. -/
section
variable {E : Nat} {w1 w w2 : World} {vk va vk' va' : Value} {n : Nat} {xk xa : List Value} {k u : Value} {ops : Array Oper} {o : Oper} {a : Act} {K : Act → World → Prop} {Q : Exit → Act → World → Prop} {F : Prop}
theorem step_K0 (h : E0 E w1 vk va n xk xa w) (hgd : o.guard = none) (s x : Operand) (ho : o.op = .call { callee := .builtin .append, args := #[s, x], argTypes := #[60, 60] }) (hs : a.eval s = vk)
    (ad : Addr) (c : Nat) (hx : a.eval x = .slice (some ad) 1 c) (hu : w.cell? ad = some k) (h1 : k.oneCell' = true) (hn : n ≤ 1000000) (hE : E + 1 ≤ w.heap.size)
    (hK : ∀ g cap w', E1K E w1 vk va n xk xa k (.slice (some ⟨g, 0, none⟩) (n + 1) cap) w' → (∀ b', b' < w.heap.size → vk.ownBlock ≠ some b' → w'.cell? ⟨b', 0, none⟩ = w.cell? ⟨b', 0, none⟩) → w.heap.size ≤ w'.heap.size → K (a.put o.dst (.slice (some ⟨g, 0, none⟩) (n + 1) cap)) w') :
    if Region.wanted o (yielded ops a.tmps) = true then Oper.wp Tryd.prog o a w K Q else F :=
  step_push_form eU32 hgd s x ho (E + 1) vk n xk hs h.ok ad c k hx hu h1 (by omega) (by omega) hE fun g cap w' a1 a2 _ =>
    hK g cap w' (h.pushK a1 a2) (fun b' hb hne => grown_cell (p := ⟨b', 0, none⟩) a2 hb (fun e => hne e.symm)) a2.size
theorem step_A1 (h : E1K E w1 vk va n xk xa k vk' w) (hgd : o.guard = none) (s x : Operand) (ho : o.op = .call { callee := .builtin .append, args := #[s, x], argTypes := #[23, 23] }) (hs : a.eval s = va)
    (ad : Addr) (c : Nat) (hx : a.eval x = .slice (some ad) 1 c) (hu : w.cell? ad = some u) (h1 : u.oneCell' = true) (hn : n ≤ 1000000) (hE : E + 1 ≤ w.heap.size)
    (hK : ∀ g cap w', E2 E w1 vk va n xk xa k u vk' (.slice (some ⟨g, 0, none⟩) (n + 1) cap) w' → K (a.put o.dst (.slice (some ⟨g, 0, none⟩) (n + 1) cap)) w') :
    if Region.wanted o (yielded ops a.tmps) = true then Oper.wp Tryd.prog o a w K Q else F :=
  step_push_form eInt hgd s x ho (E + 1) va n xa hs h.oa ad c u hx hu h1 (by omega) (by omega) hE fun g cap w' a1 a2 _ => hK g cap w' (h.pushA a1 a2)
end
section
variable {B A : Nat} {V0 : AV} {w0 : World} {E : Nat} {vl : Value} {ll : List Nat} {sz : Nat} {S S1 : St} {V V1 : AV} {vk va vk' va' : Value} {ks : List (BitVec 32 × Nat)} {w w1 w9 : World}
theorem PuM.e0 (h : PuM B A V0 w0 E vl ll sz S V vk va ks w) : E0 E w vk va ks.length (keysV ks) (atsV ks) w.drew := ⟨h.ok, h.oa, Fr.of_below (Below.refl _ _).drew⟩
/-- The entry's box is as it was while its rows are appended to. -/
theorem PuM.box (h : PuM B A V0 w0 E vl ll sz S V vk va ks w) (hf : Fr (fun b => vk.ownBlock = some b ∨ va.ownBlock = some b) w w9) : Blk w9 E 62 #[vk, va, .int .i64 sz] := hf.Blk h.be fun e => by
  rcases e with e | e
  · have := (own_lt h.ok _ e).1; omega
  · have := (own_lt h.oa _ e).1; omega
theorem PuM.s0 (h : PuM B A V0 w0 E vl ll sz S V vk va ks w) {xk xa : List Value} {n : Nat} (e : E0 E w vk va n xk xa w9) : w9.cell? ⟨E, 0, none⟩ = some vk ∧ w9.cell? ⟨E, 1, none⟩ = some va := ⟨(h.box e.fr).cell 0, (h.box e.fr).cell 1⟩
theorem PuM.sK (h : PuM B A V0 w0 E vl ll sz S V vk va ks w) {xk xa : List Value} {n : Nat} {k : Value} (e : E1K E w vk va n xk xa k vk' w9) : w9.cell? ⟨E, 0, none⟩ = some vk ∧ w9.cell? ⟨E, 1, none⟩ = some va := ⟨(h.box e.fr).cell 0, (h.box e.fr).cell 1⟩
theorem PuM.s2 (h : PuM B A V0 w0 E vl ll sz S V vk va ks w) {xk xa : List Value} {n : Nat} {k a : Value} (e : E2 E w vk va n xk xa k a vk' va' w9) : w9.cell? ⟨E, 0, none⟩ = some vk ∧ w9.cell? ⟨E, 1, none⟩ = some va := ⟨(h.box e.fr).cell 0, (h.box e.fr).cell 1⟩
/-- Both rows are appended to, and stored. -/
theorem PuM.stored (h : PuM B A V0 w0 E vl ll sz S V vk va ks w) {k : BitVec 32} {i : Nat} (h2 : E2 E w vk va ks.length (keysV ks) (atsV ks) (.int .u32 (k.toNat : Int)) (.int .i64 (i : Int)) vk' va' w9) :
    PuM B A V0 w0 E vl ll sz S V vk' va' (ks ++ [(k, i)]) ((w9.setCell ⟨E, 0, none⟩ vk').setCell ⟨E, 1, none⟩ va') := by
  have hEl := h.be.lt
  have hf : Fr (fun b => (vk.ownBlock = some b ∨ va.ownBlock = some b) ∨ b = E) w ((w9.setCell ⟨E, 0, none⟩ vk').setCell ⟨E, 1, none⟩ va') :=
    ((h2.fr.mono (ok' := fun b => (vk.ownBlock = some b ∨ va.ownBlock = some b) ∨ b = E) fun _ _ e => .inl e).trans (Fr.of_set (ok := fun b => b = E) (p := ⟨E, 0, none⟩) vk' rfl) fun _ _ e => .inr e).trans (Fr.of_set (ok := fun b => b = E) (p := ⟨E, 1, none⟩) va' rfl) fun _ _ e => .inr e
  have hnk : ∀ b, vk.ownBlock = some b → E + 1 ≤ b := fun b e => (own_lt h.ok b e).1
  have hna : ∀ b, va.ownBlock = some b → E + 1 ≤ b := fun b e => (own_lt h.oa b e).1
  have h9 : Blk w9 E 62 #[vk, va, .int .i64 sz] := h2.fr.Blk h.be fun e => by
    rcases e with e | e
    · have := hnk _ e; omega
    · have := hna _ e; omega
  have hE3 : ∀ b, ((vk.ownBlock = some b ∨ va.ownBlock = some b) ∨ b = E) → E ≤ b := fun b e => by
    rcases e with (e | e) | e
    · have := hnk b e; omega
    · have := hna b e; omega
    · omega
  have hnf : ∀ b, Fp A V b → ¬ ((vk.ownBlock = some b ∨ va.ownBlock = some b) ∨ b = E) := fun b e e2 => by
    rcases e2 with (e2 | e2) | e2
    · obtain ⟨cs, hc⟩ := own_type h.ok e2; exact h.am.not_fp hc (by decide) (by decide) e
    · obtain ⟨cs, hc⟩ := own_type h.oa e2; exact h.am.not_fp hc (by decide) (by decide) e
    · have hb := h.be; unfold Blk at hb; rw [e2] at e; exact h.am.not_fp hb (by decide) (by decide) e
  have hs : ∀ {t : TypeId} {m : Nat} {v : Value} {xs : List Value}, w9.ownsRow (E + 1) t 1 v m xs → ((w9.setCell ⟨E, 0, none⟩ vk').setCell ⟨E, 1, none⟩ va').ownsRow (E + 1) t 1 v m xs := fun ho => own_setCell (own_setCell ho (p := ⟨E, 0, none⟩) (.inl (by simp)) _) (p := ⟨E, 1, none⟩) (.inl (by simp)) _
  refine ⟨h.am.keep hf hnf (fun x hx vk va e b hb e2 => by have := h.ne x hx vk va e b hb; have := hE3 b e2; have := h.hE; omega), h.fr.trans hf fun b hl e => ?_, h.fn, ?_, ?_, ?_, hf.own h.ol fun b hb e => ?_, h.la, h.hE, h.zE, tab_keep h.tb hf (fun e => by have := hE3 0 e; have := h.hE; have := h.am.ba.lt; have := (h.am.fp_lt (.inl rfl)).1; have := h.hB; have := h.zE; omega) (by omega), h.hB, h.ne⟩
  · have := hE3 b e; have := h.hE; omega
  · have := (h9.put 0 vk').put 1 va'; simpa using this
  · rw [keysV_snoc, List.length_append]; exact hs h2.ok
  · rw [atsV_snoc, List.length_append]; exact hs h2.oa
  · have := h.la b hb; have := hE3 b e; omega
end
end Go.Proofs.YtpfkmjckjomeeaaDoor
