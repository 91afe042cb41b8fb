/- Ranging over a map whose elements are known as they stand. No program is in sight here. -/
import Derived.Test.YtpfkmjckjomeeaaDoorArcMem
namespace Go.Proofs.YtpfkmjckjomeeaaDoor
open Go.RowKit Arc
open Go.Maps (Keyed)
section
variable {P : Program} {k : TypeId} {w w' : World} {b r n : Nat} {α : Type} {L rem : List α} {kl : α → Lit} {vf : α → Value} {cnt : Nat}
/-- The loop over map b stands in block r; the entries rem are to come. -/
def RgV (w : World) (P : Program) (k : TypeId) (b r n : Nat) (L : List α) (kl : α → Lit) (vf : α → Value) (rem : List α) (cnt : Nat) : Prop :=
  ∃ D left, w.ranges P k hv b r n D left cnt ∧ (∀ l, WideAt.IsKeyLit l → (Maps.has D l = (FA L kl vf l).isSome ∧ ∀ v, FA L kl vf l = some v → ∀ z, D.atKey l z = .held v)) ∧ rem.Nodup ∧ (∀ a ∈ rem, a ∈ L) ∧
    (∀ l, WideAt.IsKeyLit l → left l = true → ∃ a ∈ rem, l = kl a) ∧ ∀ a ∈ rem, left (kl a) = true
theorem RgV.lt (h : RgV w P k b r n L kl vf rem cnt) : r < w.heap.size := by obtain ⟨D, left, h1, _⟩ := h; exact h1.lt
theorem RgV.left_eq (h : RgV w P k b r n L kl vf rem cnt) : w.rangeLeft b r = cnt := by obtain ⟨D, left, h1, _⟩ := h; exact h1.left_eq
theorem RgV.kept {row : Option Nat} (h : RgV w P k b r n L kl vf rem cnt) (hg : w.grownBy w' row) (hb : some b ≠ row) (hr : some r ≠ row) : RgV w' P k b r n L kl vf rem cnt := by
  obtain ⟨D, left, h1, h2⟩ := h; exact ⟨D, left, h1.kept hg hb hr, h2⟩
theorem RgV.start {t e : TypeId} (h : MapV w P k b n (FA L kl vf)) (K : Keyed P k) (ht : P.underlying t = some (.map k e)) (hk : ∀ a, WideAt.IsKeyLit (kl a)) (inj : ∀ a b, kl a = kl b → a = b) (hn : L.Nodup) :
    ∃ w' cnt, (Instr.range t (.map (some b))).run P w = .ok (.pointer (some ⟨w.heap.size, 0, none⟩)) w' ∧ RgV w' P k b w.heap.size n L kl vf L cnt ∧ w.grownBy w' none ∧ w'.heap.size = w.heap.size + 1 := by
  obtain ⟨D, h1, h2⟩ := h
  obtain ⟨w', hr, r1, r2, r3⟩ := h1.range K ht
  refine ⟨w', _, hr, ⟨D, _, r1, h2, hn, fun a h => h, fun l hl hlf => ?_, fun a ha => ?_⟩, r2, r3⟩
  · rw [(h2 l hl).1] at hlf
    rcases FA_at hk inj L vf l with ⟨e, _⟩ | ⟨a, ha, e, _⟩
    · rw [e] at hlf; cases hlf
    · exact ⟨a, ha, e⟩
  · rw [(h2 _ (hk a)).1, FA_get hk inj ha]; rfl
theorem RgV.next (h : RgV w P k b r n L kl vf rem cnt) (K : Keyed P k) (hk : ∀ a, WideAt.IsKeyLit (kl a)) (inj : ∀ a b, kl a = kl b → a = b) (ty : TypeId) :
    (rem = [] ∧ (Instr.next (.pointer (some ⟨r, 0, none⟩)) false ty).run P w = .ok (.tuple #[.bool false]) w) ∨
    ∃ pre a post key w' cnt', rem = pre ++ a :: post ∧ (Instr.next (.pointer (some ⟨r, 0, none⟩)) false ty).run P w = .ok (.tuple #[.bool true, key, vf a]) w' ∧ RgV w' P k b r n L kl vf (pre ++ post) cnt' ∧ cnt' < cnt ∧ w.grownBy w' (some r) ∧ w'.heap.size = w.heap.size ∧ (Instr.entry (.pointer (some ⟨r, 0, none⟩))).run P w' = .ok (.tuple #[key, vf a]) w' := by
  obtain ⟨D, left, h1, h2, h3, h4, h5, h6⟩ := h
  rcases h1.next K ty with ⟨_, hl, hrun⟩ | ⟨key, v, kl', y, w', cnt', hkey, hlf, hR, hat, hrun, hrg, hlt, hg, hsz, hen⟩
  · refine .inl ⟨?_, hrun⟩
    cases rem with
    | nil => rfl
    | cons a rr => have := h6 a (by simp); rw [hl] at this; cases this
  · have hkl := K.key hkey
    obtain ⟨a, ha, rfl⟩ := h5 kl' hkl hlf
    have hF := FA_get (vf := vf) hk inj (h4 a ha)
    have e1 := (h2 _ hkl).2 _ hF (.held .nilIface)
    rw [hat] at e1
    simp only [hv, Option.some.injEq] at hR
    rw [← hR] at e1
    injection e1 with e1
    subst e1
    obtain ⟨pre, post, rfl⟩ := List.append_of_mem ha
    obtain ⟨n1, n2, n3⟩ := List.nodup_append.1 h3
    obtain ⟨n4, n5⟩ := List.nodup_cons.1 n2
    refine .inr ⟨pre, a, post, key, w', cnt', rfl, hrun, ⟨D, _, hrg, h2, List.nodup_append.2 ⟨n1, n5, fun x hx y hy => n3 x hx y (by simp [hy])⟩, fun x hx => h4 x ?_, fun l hl hlf2 => ?_, fun x hx => ?_⟩, hlt, hg, hsz, hen⟩
    · rcases List.mem_append.1 hx with hx | hx <;> simp [hx]
    · simp only [Bool.and_eq_true, Bool.not_eq_true'] at hlf2
      obtain ⟨x, hx, rfl⟩ := h5 l hl hlf2.1
      have hne : x ≠ a := fun e => by rw [e, WideAt.sameKey_self (hk a)] at hlf2; cases hlf2.2
      refine ⟨x, ?_, rfl⟩
      rcases List.mem_append.1 hx with hx | hx
      · simp [hx]
      · rcases List.mem_cons.1 hx with hx | hx
        · exact absurd hx hne
        · simp [hx]
    · have hne : x ≠ a := fun e => by
        subst e
        rcases List.mem_append.1 hx with hx | hx
        · exact n3 x hx x (by simp) rfl
        · exact n4 hx
      have hx2 : x ∈ pre ++ a :: post := by rcases List.mem_append.1 hx with hx | hx <;> simp [hx]
      rw [h6 x hx2]
      simp only [Bool.true_and, Bool.not_eq_true']
      cases hs : (kl x).sameKey (kl a) with
      | false => rfl
      | true => exact absurd (inj _ _ ((WideAt.sameKey_iff (hk a)).1 hs)) hne
end
theorem grown_set (w : World) (p : Addr) (u : Value) : w.grownBy (w.setCell p u) (some p.block) := ⟨rfl, rfl, rfl, by simp [World.setCell], fun b _ hb => Below.heap_setCell w p u b fun e => hb (by rw [e])⟩
/-- Sums over what is left. -/
theorem sum_parted {α : Type} (f : α → Nat) (pre post : List α) (x : α) : ((pre ++ x :: post).map f).sum = ((pre ++ post).map f).sum + f x := by simp [List.sum_append]; omega
end Go.Proofs.YtpfkmjckjomeeaaDoor
