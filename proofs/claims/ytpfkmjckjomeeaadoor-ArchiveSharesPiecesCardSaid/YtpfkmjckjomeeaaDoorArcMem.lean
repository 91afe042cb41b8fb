/- The archive in memory. -/
import Derived.Test.YtpfkmjckjomeeaaDoorArcCuts
import Derived.Test.YtpfkmjckjomeeaaDoorArcMap
namespace Go.Proofs.YtpfkmjckjomeeaaDoor
open Go.RowKit Arc
open Go.Maps (Keyed)
/-- w' is w but for the blocks told by ok, and for new ones. -/
structure Fr (ok : Nat → Prop) (w w' : World) : Prop where
  os : w'.os = w.os
  tape : w'.tape = w.tape
  output : w'.output = w.output
  size : w.heap.size ≤ w'.heap.size
  blk : ∀ b, b < w.heap.size → ¬ ok b → w'.heap[b]? = w.heap[b]?
section
variable {ok ok' : Nat → Prop} {w w' w'' : World}
theorem Fr.refl (ok : Nat → Prop) (w : World) : Fr ok w w := ⟨rfl, rfl, rfl, Nat.le_refl _, fun _ _ _ => rfl⟩
theorem Fr.mono (h : Fr ok w w') (hk : ∀ b, b < w.heap.size → ok b → ok' b) : Fr ok' w w' := ⟨h.os, h.tape, h.output, h.size, fun b hl hb => h.blk b hl fun e => hb (hk b hl e)⟩
theorem Fr.trans (h : Fr ok w w') (h2 : Fr ok' w' w'') (hk : ∀ b, b < w.heap.size → ok' b → ok b) : Fr ok w w'' :=
  ⟨h2.os.trans h.os, h2.tape.trans h.tape, h2.output.trans h.output, Nat.le_trans h.size h2.size, fun b hl hb => (h2.blk b (Nat.lt_of_lt_of_le hl h.size) fun e => hb (hk b hl e)).trans (h.blk b hl hb)⟩
theorem Fr.of_below (h : Below w.heap.size w w') : Fr ok w w' := ⟨h.os, h.tape, h.output, h.size, fun b hl _ => h.block b hl⟩
theorem Fr.then (h : Fr ok w w') (hb : Below w'.heap.size w' w'') : Fr ok w w'' := h.trans (ok' := fun _ => False) (.of_below hb) fun _ _ e => e.elim
theorem Fr.below {B : Nat} (h : Fr ok w w') (hB : ∀ b, ok b → B ≤ b) (hs : B ≤ w.heap.size) : Below B w w' := ⟨h.os, h.tape, h.output, h.size, fun b hb => h.blk b (by omega) fun e => by have := hB b e; omega⟩
theorem Fr.of_grown {row : Option Nat} (h : w.grownBy w' row) (hr : ∀ b, row = some b → ok b) : Fr ok w w' := ⟨h.os, h.tape, h.output, h.size, fun b hl hb => h.block b hl fun e => hb (hr b e.symm)⟩
theorem Fr.of_set {p : Addr} (u : Value) (hp : ok p.block) : Fr ok w (w.setCell p u) := ⟨rfl, rfl, rfl, by simp [World.setCell], fun b _ hb => Below.heap_setCell w p u b fun e => hb (e ▸ hp)⟩
theorem Fr.Blk {g : Nat} {t : TypeId} {cs : Array Value} (h : Fr ok w w') (hb : Blk w g t cs) (hg : ¬ ok g) : Blk w' g t cs := (h.blk g hb.lt hg).trans hb
theorem Fr.own {base : Nat} {e : TypeId} {size n : Nat} {v : Value} {xs : List Value} (h : Fr ok w w') (ho : w.ownsRow base e size v n xs) (hk : ∀ b, v.ownBlock = some b → ¬ ok b) : w'.ownsRow base e size v n xs := by
  have hl := own_lt ho
  refine ⟨ho.1, ?_⟩
  rcases ho.2 with h0 | ⟨g, cap, cur, rfl, hg, hh, r⟩
  · exact .inl h0
  · exact .inr ⟨g, cap, cur, rfl, hg, (h.blk g (hl g (by simp [Value.ownBlock])).2 (hk g (by simp [Value.ownBlock]))).trans hh, r⟩
theorem Fr.map {P : Program} {k : TypeId} {b n : Nat} {F : Lit → Option Value} (h : Fr ok w w') (hm : MapV w P k b n F) (hb : ¬ ok b) : MapV w' P k b n F := by
  have hl := hm.lt
  obtain ⟨D, ⟨es, clock, h1, h2⟩, h3⟩ := hm
  exact ⟨D, ⟨es, clock, (h.blk b hl hb).trans h1, h2⟩, h3⟩
end
/-- Whose first cells are known: the type of a row's block. -/
theorem own_type {w : World} {base : Nat} {e : TypeId} {size n : Nat} {v : Value} {xs : List Value} (h : w.ownsRow base e size v n xs) {b : Nat} (hb : v.ownBlock = some b) : ∃ cs, w.heap[b]? = some (.cells cs e (0, 0)) := by
  rcases h.2 with ⟨rfl, _⟩ | ⟨g, cap, cur, rfl, _, hh, _⟩
  · simp [Value.ownBlock] at hb
  · simp [Value.ownBlock] at hb
    subst hb; exact ⟨_, hh⟩
/-! An association list as a map's content. -/
def FA {α : Type} (L : List α) (kl : α → Lit) (vf : α → Value) (l : Lit) : Option Value := (L.find? fun k => l.sameKey (kl k)).map vf
section
variable {α : Type} {L : List α} {kl : α → Lit} {vf : α → Value} (hk : ∀ a, WideAt.IsKeyLit (kl a)) (inj : ∀ a b, kl a = kl b → a = b)
include hk inj
theorem same_iff (a b : α) : (kl a).sameKey (kl b) = true ↔ a = b := (WideAt.sameKey_iff (hk b)).trans ⟨inj a b, fun e => by rw [e]⟩
theorem FA_get {a : α} (h : a ∈ L) : FA L kl vf (kl a) = some (vf a) := by
  unfold FA
  cases hf : L.find? (fun k => (kl a).sameKey (kl k)) with
  | none =>
    have := List.find?_eq_none.1 hf a h
    exact absurd ((same_iff hk inj a a).2 rfl) this
  | some b =>
    have := List.find?_some hf
    rw [(same_iff hk inj a b).1 this]; rfl
theorem FA_none {a : α} (h : a ∉ L) : FA L kl vf (kl a) = none := by
  unfold FA
  rw [Option.map_eq_none_iff, List.find?_eq_none]
  intro b hb e
  exact h ((same_iff hk inj a b).1 e ▸ hb)
omit inj in
theorem FA_other {l : Lit} (h : ∀ a ∈ L, l ≠ kl a) : FA L kl vf l = none := by
  unfold FA
  rw [Option.map_eq_none_iff, List.find?_eq_none]
  intro b hb e
  exact h b hb ((WideAt.sameKey_iff (hk b)).1 e)
theorem FA_at (L : List α) (vf : α → Value) (l : Lit) : FA L kl vf l = none ∧ (∀ a ∈ L, l ≠ kl a) ∨ ∃ a ∈ L, l = kl a ∧ FA L kl vf l = some (vf a) := by
  by_cases h : ∃ a ∈ L, l = kl a
  · obtain ⟨a, ha, rfl⟩ := h
    exact .inr ⟨a, ha, rfl, FA_get hk inj ha⟩
  · left
    have h2 : ∀ a ∈ L, l ≠ kl a := fun a ha e => h ⟨a, ha, e⟩
    exact ⟨FA_other hk h2, h2⟩
/-- Two association lists with the same answers are one map. -/
theorem FA_ext {L' : List α} {vf' : α → Value} {F : Lit → Option Value} (h1 : ∀ a ∈ L', F (kl a) = some (vf' a)) (h2 : ∀ l, (∀ a ∈ L', l ≠ kl a) → F l = none) (l : Lit) : FA L' kl vf' l = F l := by
  rcases FA_at hk inj L' vf' l with ⟨e, h⟩ | ⟨a, ha, rfl, e⟩
  · rw [e, h2 l h]
  · rw [e, h1 a ha]
end
/-! The two kinds of keys. -/
def kU (k : BitVec 32) : Lit := .int .u32 (k.toNat : Int)
def kS (s : ByteArray) : Lit := .string s.data.toList
theorem kU_key (k : BitVec 32) : WideAt.IsKeyLit (kU k) := trivial
theorem kS_key (s : ByteArray) : WideAt.IsKeyLit (kS s) := trivial
theorem kU_inj (a b : BitVec 32) (h : kU a = kU b) : a = b := by
  unfold kU at h; injection h with _ h; exact BitVec.eq_of_toNat_eq (by omega)
theorem kS_inj (a b : ByteArray) (h : kS a = kS b) : a = b := by
  unfold kS at h; injection h with h
  cases a with | mk a => cases b with | mk b => congr 1; exact Array.toList_inj.1 h
theorem lawU : Keyed Tryd.prog 63 := Maps.int_keyed Tryd.underlying63
theorem lawS : Keyed Tryd.prog 9 := Maps.string_keyed Tryd.underlying9
theorem keyU (k : BitVec 32) : keyOf Tryd.prog 63 (.int .u32 (k.toNat : Int)) = some (kU k) := Maps.keyOf_int_mk Tryd.underlying63 (by have := k.isLt; simp only [Lit.wf, Bool.and_eq_true, decide_eq_true_eq]; have e1 : IntKind.u32.min = 0 := (by decide); have e2 : IntKind.u32.max = 4294967295 := (by decide); omega)
theorem keyS (s : ByteArray) (h : s.size ≤ maxLen) : keyOf Tryd.prog 9 (.string s) = some (kS s) := Go.WideMaps.keyOf_string_mk Tryd.underlying9 h
theorem zeroP (w : World) : (zeroValue 30).run Tryd.prog w = .ok (.slice none 0 0) w := by kernel_rfl
theorem zeroE (w : World) : (zeroValue 62).run Tryd.prog w = .ok (.agg #[.slice none 0 0, .slice none 0 0, .int .i64 0]) w := by kernel_rfl
end Go.Proofs.YtpfkmjckjomeeaaDoor
