/- Maps whose elements are known as they stand. No program is in sight here. -/
import Derived.Test.YtonmpealebggoaaGreatDoorKit
import Derived.Maps.OwnSet
import Derived.Maps.RangeWalk
namespace Go.Proofs.YtonmpealebggoaaGreatDoor
open Go.RowKit
open Go.Maps (Keyed)
/-- An element is told as it stands. -/
def hv (v : Value) : Option (DataW Value × List MemPlace) := some (.held v, [])
/-- Block b of w is a map of at most n entries; F says what stands at a key. -/
def MapV (w : World) (P : Program) (k : TypeId) (b n : Nat) (F : Lit → Option Value) : Prop :=
  ∃ D : DataW Value, w.ownsMap P k hv b n D ∧ ∀ l, WideAt.IsKeyLit l → (Maps.has D l = (F l).isSome ∧ ∀ v, F l = some v → ∀ z, D.atKey l z = .held v)
section
variable {P : Program} {k : TypeId} {w w' : World} {b n : Nat} {F : Lit → Option Value}
theorem MapV.made (w : World) (P : Program) (k : TypeId) : MapV (w.alloc (.map #[] 0)) P k w.heap.size 0 (fun _ => none) :=
  ⟨_, World.ownsMap_made w P k hv, fun l _ => ⟨rfl, fun v h => by cases h⟩⟩
theorem MapV.lt (h : MapV w P k b n F) : b < w.heap.size := by obtain ⟨D, h1, _⟩ := h; exact h1.lt
theorem MapV.mono (h : MapV w P k b n F) {m : Nat} (hm : n ≤ m) : MapV w P k b m F := by obtain ⟨D, h1, h2⟩ := h; exact ⟨D, h1.mono hm, h2⟩
theorem MapV.kept {row : Option Nat} (h : MapV w P k b n F) (hg : w.grownBy w' row) (hne : some b ≠ row) : MapV w' P k b n F := by
  obtain ⟨D, h1, h2⟩ := h; exact ⟨D, h1.kept hg hne, h2⟩
theorem MapV.later (h : MapV w P k b n F) (hb : Below w.heap.size w w') : MapV w' P k b n F :=
  h.kept (row := none) ⟨hb.os, hb.tape, hb.output, hb.size, fun i hi _ => hb.block i hi⟩ (by simp)
theorem MapV.setCell (h : MapV w P k b n F) {a : Addr} (ha : b ≠ a.block) (u : Value) : MapV (w.setCell a u) P k b n F := by
  obtain ⟨D, h1, h2⟩ := h; exact ⟨D, h1.setCell ha u, h2⟩
theorem MapV.look {t e : TypeId} (h : MapV w P k b n F) (K : Keyed P k) (ht : P.underlying t = some (.map k e)) {z : Value} (hz : (zeroValue e).run P w = .ok z w) {key : Value} {kl : Lit} (hkey : keyOf P k key = some kl) :
    (Instr.lookup t (.map (some b)) key false).run P w = .ok ((F kl).getD z) w ∧ (Instr.lookup t (.map (some b)) key true).run P w = .ok (.tuple #[(F kl).getD z, .bool (F kl).isSome]) w := by
  obtain ⟨D, h1, h2⟩ := h
  obtain ⟨h3, h4⟩ := h2 kl (K.key hkey)
  obtain ⟨v, ps, hrun, hvv⟩ := h1.lookup K ht hz (zd := .held z) (zp := []) rfl hkey
  obtain ⟨v', ps', hrun', hvv'⟩ := h1.look_ok K ht hz (zd := .held z) (zp := []) rfl hkey
  simp only [hv, Option.some.injEq, Prod.mk.injEq] at hvv hvv'
  have key1 : DataW.held v = D.atKey kl (.held z) := hvv.1
  have key2 : DataW.held v' = D.atKey kl (.held z) := hvv'.1
  cases hF : F kl with
  | none =>
    rw [hF] at h3
    have e := Maps.atKey_of_not_has h3 (.held z)
    rw [e] at key1 key2
    injection key1 with key1
    injection key2 with key2
    subst key1 key2
    rw [h3] at hrun'
    exact ⟨hrun, hrun'⟩
  | some u =>
    rw [h4 u hF (.held z)] at key1 key2
    injection key1 with key1
    injection key2 with key2
    subst key1 key2
    rw [h3, hF] at hrun'
    exact ⟨hrun, hrun'⟩
theorem MapV.put {t e : TypeId} (h : MapV w P k b n F) (K : Keyed P k) (ht : P.underlying t = some (.map k e)) (hn : n < maxLen) {key : Value} {kl : Lit} (hkey : keyOf P k key = some kl) (v : Value) :
    ∃ w', (Instr.mapUpdate t (.map (some b)) key v).run P w = .ok () w' ∧ MapV w' P k b (n + 1) (fun l => if l.sameKey kl then some v else F l) ∧ w.grownBy w' (some b) := by
  obtain ⟨D, h1, h2⟩ := h
  obtain ⟨w', hrun, r1, r2⟩ := h1.update K ht hn hkey (val := v) (d := .held v) (ps := []) rfl
  refine ⟨w', hrun, ⟨_, r1, fun l hl => ?_⟩, r2⟩
  dsimp only
  split
  · rename_i e
    obtain rfl := (WideAt.sameKey_iff (K.key hkey)).1 e
    exact ⟨by rw [Maps.has_put_same h1.isMap hl]; rfl, fun u hu z => by rw [Maps.atKey_put_same h1.isMap hl]; injection hu with hu; rw [hu]⟩
  · rename_i e
    replace e : l ≠ kl := fun h => e ((WideAt.sameKey_iff (K.key hkey)).2 h)
    obtain ⟨a1, a2⟩ := h2 l hl
    exact ⟨by rw [Maps.has_put_other (D := D) e]; exact a1, fun u hu z => by rw [Maps.atKey_put_other (D := D) e]; exact a2 u hu z⟩
theorem MapV.del {t e : TypeId} (h : MapV w P k b n F) (K : Keyed P k) (ht : P.underlying t = some (.map k e)) {key : Value} {kl : Lit} (hkey : keyOf P k key = some kl) (ty : TypeId) :
    ∃ w', (Builtin.delete_ #[t, k] ty #[.map (some b), key]).run P w = .ok (.tuple #[]) w' ∧ MapV w' P k b n (fun l => if l.sameKey kl then none else F l) ∧ w.grownBy w' (some b) := by
  obtain ⟨D, h1, h2⟩ := h
  obtain ⟨w', hrun, r1, r2⟩ := h1.drop K ht hkey ty
  refine ⟨w', hrun, ⟨_, r1, fun l hl => ?_⟩, r2.grown⟩
  dsimp only
  split
  · rename_i e
    obtain rfl := (WideAt.sameKey_iff (K.key hkey)).1 e
    exact ⟨by rw [Maps.has_del_same]; rfl, fun u hu => by cases hu⟩
  · rename_i e
    replace e : l ≠ kl := fun h => e ((WideAt.sameKey_iff (K.key hkey)).2 h)
    obtain ⟨a1, a2⟩ := h2 l hl
    exact ⟨by rw [Maps.has_del_other (D := D) e]; exact a1, fun u hu z => by rw [Maps.atKey_del_other (D := D) e]; exact a2 u hu z⟩
theorem MapV.ext {G : Lit → Option Value} (h : MapV w P k b n F) (hG : ∀ l, WideAt.IsKeyLit l → G l = F l) : MapV w P k b n G := by
  obtain ⟨D, h1, h2⟩ := h
  exact ⟨D, h1, fun l hl => by rw [hG l hl]; exact h2 l hl⟩
end
end Go.Proofs.YtonmpealebggoaaGreatDoor
