/- The archive in memory: its own blocks, and what each call does to them. -/
import Derived.Test.YtpfkmjckjomeeaaDoorArcMem
namespace Go.Proofs.YtpfkmjckjomeeaaDoor
open Go.RowKit Arc
open Go.Maps (Keyed)
def strs (l : List ByteArray) : List Value := l.map Value.string
def keysV (l : List (BitVec 32 × Nat)) : List Value := l.map fun k => Value.int .u32 (k.1.toNat : Int)
def atsV (l : List (BitVec 32 × Nat)) : List Value := l.map fun k => Value.int .i64 (k.2 : Int)
/-- The values that stand in an archive's memory. -/
structure AV where
  P : Nat
  N : Nat
  vo : Value
  vf : BitVec 32 → Value
  ev : ByteArray → Value
  n : Nat
/-- The blocks that an archive may write. -/
def Fp (A : Nat) (V : AV) (b : Nat) : Prop := b = A ∨ b = V.P ∨ b = V.N ∨ V.vo.ownBlock = some b ∨ ∃ k, (V.vf k).ownBlock = some b
structure AM (B A : Nat) (S : St) (V : AV) (w : World) : Prop where
  lo : B ≤ A ∧ B ≤ V.P ∧ B ≤ V.N ∧ V.P ≠ V.N
  ba : Blk w A 58 #[.map (some V.P), .map (some V.N), V.vo]
  mp : MapV w Tryd.prog 63 V.P V.n (FA S.p.L kU V.vf)
  mn : MapV w Tryd.prog 9 V.N V.n (FA S.order kS V.ev)
  vn : ∀ k, k ∉ S.p.L → V.vf k = .slice none 0 0
  of : ∀ k, w.ownsRow B 9 1 (V.vf k) (S.p.f k).length (strs (S.p.f k))
  oo : w.ownsRow B 9 1 V.vo S.order.length (strs S.order)
  sep : ∀ k k' b, k ≠ k' → (V.vf k).ownBlock = some b → (V.vf k').ownBlock ≠ some b
  seo : ∀ k b, (V.vf k).ownBlock = some b → V.vo.ownBlock ≠ some b
  en : ∀ x ∈ S.nm, ∃ vk va, V.ev x.1 = .agg #[vk, va, .int .i64 x.2.size] ∧ w.ownsRow B 63 1 vk x.2.ks.length (keysV x.2.ks) ∧ w.ownsRow B 3 1 va x.2.ks.length (atsV x.2.ks)
  cn : ∀ k, (S.p.f k).length ≤ V.n
  ok : S.p.Ok
section
variable {B A : Nat} {S : St} {V : AV} {w w' : World}
theorem mapV_obj {P : Program} {k : TypeId} {b n : Nat} {F : Lit → Option Value} (h : MapV w P k b n F) : ∃ es clock, w.heap[b]? = some (.map es clock) := by
  obtain ⟨D, ⟨es, clock, h1, _⟩, _⟩ := h; exact ⟨es, clock, h1⟩
theorem AM.fp_lt (h : AM B A S V w) {b : Nat} (hb : Fp A V b) : B ≤ b ∧ b < w.heap.size := by
  obtain ⟨l1, l2, l3, _⟩ := h.lo
  rcases hb with rfl | rfl | rfl | e | ⟨k, e⟩
  · exact ⟨l1, h.ba.lt⟩
  · exact ⟨l2, h.mp.lt⟩
  · exact ⟨l3, h.mn.lt⟩
  · exact own_lt h.oo b e
  · exact own_lt (h.of k) b e
/-- A block of cells of another type is none of the archive's. -/
theorem AM.not_fp (h : AM B A S V w) {b : Nat} {t : TypeId} {cs : Array Value} {m : Nat × Nat} (hb : w.heap[b]? = some (.cells cs t m)) (h1 : t ≠ 58) (h2 : t ≠ 9) : ¬ Fp A V b := by
  rintro (rfl | rfl | rfl | e | ⟨k, e⟩)
  · have e1 := h.ba; unfold Blk at e1; rw [e1] at hb; injection hb with hb; injection hb with _ ht; exact h1 ht.symm
  · obtain ⟨es, c, e1⟩ := mapV_obj h.mp; rw [e1] at hb; cases hb
  · obtain ⟨es, c, e1⟩ := mapV_obj h.mn; rw [e1] at hb; cases hb
  · obtain ⟨cs2, e1⟩ := own_type h.oo e; rw [e1] at hb; injection hb with hb; injection hb with _ ht; exact h2 ht.symm
  · obtain ⟨cs2, e1⟩ := own_type (h.of k) e; rw [e1] at hb; injection hb with hb; injection hb with _ ht; exact h2 ht.symm
theorem AM.ne_A (h : AM B A S V w) : V.P ≠ A ∧ V.N ≠ A := by
  have e1 := h.ba; unfold Blk at e1
  constructor
  · intro e; obtain ⟨es, c, e2⟩ := mapV_obj h.mp; rw [e, e1] at e2; cases e2
  · intro e; obtain ⟨es, c, e2⟩ := mapV_obj h.mn; rw [e, e1] at e2; cases e2
theorem AM.row_ne (h : AM B A S V w) {v : Value} {n : Nat} {xs : List Value} {t : TypeId} (ho : w.ownsRow B t 1 v n xs) (ht : t ≠ 58) {b : Nat} (hb : v.ownBlock = some b) : b ≠ A ∧ b ≠ V.P ∧ b ≠ V.N := by
  obtain ⟨cs, e⟩ := own_type ho hb
  refine ⟨?_, ?_, ?_⟩
  · rintro rfl; have e1 := h.ba; unfold Blk at e1; rw [e1] at e; injection e with e; injection e with _ e2; exact ht e2.symm
  · rintro rfl; obtain ⟨es, c, e2⟩ := mapV_obj h.mp; rw [e2] at e; cases e
  · rintro rfl; obtain ⟨es, c, e2⟩ := mapV_obj h.mn; rw [e2] at e; cases e
/-- Nothing of the archive's is written. -/
theorem AM.keep (h : AM B A S V w) {ok : Nat → Prop} (hf : Fr ok w w') (hk : ∀ b, Fp A V b → ¬ ok b) (he : ∀ x ∈ S.nm, ∀ vk va, V.ev x.1 = .agg #[vk, va, .int .i64 x.2.size] → ∀ b, (vk.ownBlock = some b ∨ va.ownBlock = some b) → ¬ ok b) : AM B A S V w' where
  lo := h.lo
  ba := hf.Blk h.ba (hk _ (.inl rfl))
  mp := hf.map h.mp (hk _ (.inr (.inl rfl)))
  mn := hf.map h.mn (hk _ (.inr (.inr (.inl rfl))))
  vn := h.vn
  of := fun k => hf.own (h.of k) fun b hb => hk _ (.inr (.inr (.inr (.inr ⟨k, hb⟩))))
  oo := hf.own h.oo fun b hb => hk _ (.inr (.inr (.inr (.inl hb))))
  sep := h.sep
  seo := h.seo
  en := fun x hx => by
    obtain ⟨vk, va, e, o1, o2⟩ := h.en x hx
    exact ⟨vk, va, e, hf.own o1 fun b hb => he x hx vk va e b (.inl hb), hf.own o2 fun b hb => he x hx vk va e b (.inr hb)⟩
  cn := h.cn
  ok := h.ok
/-- Entries' rows lie in memory. -/
theorem AM.ent_lt (h : AM B A S V w) : ∀ x ∈ S.nm, ∀ vk va, V.ev x.1 = .agg #[vk, va, .int .i64 x.2.size] → ∀ b, (vk.ownBlock = some b ∨ va.ownBlock = some b) → b < w.heap.size := fun x hx vk va e b hb => by
  obtain ⟨vk', va', e', o1, o2⟩ := h.en x hx
  rw [e] at e'
  injection e' with e'
  have e1 := congrArg (fun a : Array Value => a[0]?) e'
  have e2 := congrArg (fun a : Array Value => a[1]?) e'
  simp at e1 e2
  subst e1 e2
  rcases hb with hb | hb
  · exact (own_lt o1 b hb).2
  · exact (own_lt o2 b hb).2
theorem AM.later (h : AM B A S V w) (hb : Below w.heap.size w w') : AM B A S V w' :=
  h.keep (ok := fun _ => False) (.of_below hb) (fun _ _ e => e) fun _ _ _ _ _ _ _ e => e
/-- A new archive. -/
def AV.new (P N : Nat) : AV := ⟨P, N, .slice none 0 0, fun _ => .slice none 0 0, fun _ => undef, 0⟩
end
end Go.Proofs.YtpfkmjckjomeeaaDoor
