/- A new archive; a name is dropped from an archive's memory. -/
import Derived.Test.YtpfkmjckjomeeaaDoorArcName
namespace Go.Proofs.YtpfkmjckjomeeaaDoor
open Go.RowKit Arc
open Go.Maps (Keyed)
theorem AM.new (w : World) : AM w.heap.size (w.heap.size + 2) St.none (AV.new w.heap.size (w.heap.size + 1)) (((w.alloc (.map #[] 0)).alloc (.map #[] 0)).alloc (Obj.cells #[.map (some w.heap.size), .map (some (w.heap.size + 1)), .slice none 0 0] 58)) := by
  have h1 := MapV.made w Tryd.prog 63
  have h2 := MapV.made (w.alloc (.map #[] 0)) Tryd.prog 9
  rw [World.size_alloc] at h2
  have b1 := (Below.refl (w.alloc (.map #[] 0)).heap.size (w.alloc (.map #[] 0))).alloc (Nat.le_refl _) (.map #[] 0)
  have h3 := h1.later b1
  have b2 := (Below.refl ((w.alloc (.map #[] 0)).alloc (.map #[] 0)).heap.size ((w.alloc (.map #[] 0)).alloc (.map #[] 0))).alloc (Nat.le_refl _) (Obj.cells #[.map (some w.heap.size), .map (some (w.heap.size + 1)), .slice none 0 0] 58)
  have hA := Blk.new ((w.alloc (.map #[] 0)).alloc (.map #[] 0)) 58 #[.map (some w.heap.size), .map (some (w.heap.size + 1)), .slice none 0 0]
  rw [World.size_alloc, World.size_alloc] at hA
  refine ⟨⟨by omega, Nat.le_refl _, by show w.heap.size ≤ w.heap.size + 1; omega, by show w.heap.size ≠ w.heap.size + 1; omega⟩, hA, (h3.later b2).ext fun l _ => rfl, (h2.later b2).ext fun l _ => rfl, fun k _ => rfl, fun k => World.ownsRow_nil _ _ _ _, World.ownsRow_nil _ _ _ _, fun k k' b _ e => ?_, fun k b e => ?_, fun x hx => ?_, fun k => Nat.le_refl _, Pcs.none_ok⟩
  · simp [AV.new, Value.ownBlock] at e
  · simp [AV.new, Value.ownBlock] at e
  · simp [St.none] at hx
def NewOk (w : World) (e : Ending) (w' : World) : Prop :=
  ∃ A V, e = .returned (.pointer (some ⟨A, 0, none⟩)) ∧ AM w.heap.size A St.none V w' ∧ Below w.heap.size w w' ∧ V.n = 0
set_option maxRecDepth 100000 in
set_option maxHeartbeats 4000000 in
theorem new_any (w : World) : Calls Tryd.prog 15 #[] w (NewOk w) := by
  have HP : Hid (∀ e w', NewOk w e w' = ∃ A V, e = .returned (.pointer (some ⟨A, 0, none⟩)) ∧ AM w.heap.size A St.none V w' ∧ Below w.heap.size w w' ∧ V.n = 0) := fun _ _ => rfl
  have HA := Lib.hid (AM.new w)
  generalize NewOk w = Post at *
  have hmm := @run_makeMap Tryd.prog
  go_enter Tryd.func15, Tryd.ntmps15
  go_wp2
  rw [HP.out]
  exact ⟨_, _, rfl, HA.out, (((Below.refl _ _).alloc (Nat.le_refl _) _).alloc (by simp) _).alloc (by simp; omega) _, rfl⟩
theorem mem_eraseIdx_nodup {α : Type} {l : List α} (hn : l.Nodup) {i : Nat} (hi : i < l.length) (a : α) : a ∈ l.eraseIdx i ↔ a ∈ l ∧ a ≠ l[i] := by
  induction l generalizing i with
  | nil => simp at hi
  | cons x r ih =>
    obtain ⟨h1, h2⟩ := List.nodup_cons.1 hn
    cases i with
    | zero =>
      simp only [List.eraseIdx_cons_zero, List.mem_cons, List.getElem_cons_zero]
      constructor
      · intro h; exact ⟨.inr h, fun e => h1 (e ▸ h)⟩
      · rintro ⟨h | h, h3⟩
        · exact absurd h h3
        · exact h
    | succ i =>
      have hi' : i < r.length := by simpa using hi
      simp only [List.eraseIdx_cons_succ, List.mem_cons, List.getElem_cons_succ, ih h2 hi']
      constructor
      · rintro (h | ⟨h, h3⟩)
        · exact ⟨.inl h, fun e => h1 (by rw [← h, e]; exact List.getElem_mem hi')⟩
        · exact ⟨.inr h, h3⟩
      · rintro ⟨h | h, h3⟩
        · exact .inl h
        · exact .inr ⟨h, h3⟩
theorem map_eraseIdx {α β : Type} (f : α → β) (l : List α) (i : Nat) : (l.eraseIdx i).map f = (l.map f).eraseIdx i := by
  induction l generalizing i with
  | nil => rfl
  | cons x r ih => cases i with
    | zero => rfl
    | succ i => simp [ih]
theorem AM.dropName {B A : Nat} {S : St} {V : AV} {w w0 w1 w3 : World} {vo' : Value} (h : AM B A S V w) (i : Nat) (hi : i < S.order.length) (hnd : S.order.Nodup)
    (hb : Below w.heap.size w w0) (ho : w1.ownsRow B 9 1 vo' (S.order.length - 1) (strs (S.order.eraseIdx i))) (hg : w0.grownBy w1 V.vo.ownBlock) (hk : vo'.ownBlock = V.vo.ownBlock)
    (hm : MapV w3 Tryd.prog 9 V.N V.n (fun l => if l.sameKey (kS S.order[i]) then none else FA S.order kS V.ev l)) (hg3 : (w1.setCell ⟨A, 2, none⟩ vo').grownBy w3 (some V.N)) :
    AM B A ⟨S.p, S.nm.eraseIdx i⟩ { V with vo := vo' } w3 ∧ Fr (Fp A V) w w3 ∧ ∀ b, Fp A { V with vo := vo' } b → Fp A V b := by
  obtain ⟨lA, lP, lN, hPN⟩ := h.lo
  obtain ⟨hPA, hNA⟩ := h.ne_A
  have hro : ∀ b, V.vo.ownBlock = some b → b ≠ A ∧ b ≠ V.P ∧ b ≠ V.N := fun b e => h.row_ne h.oo (by decide) e
  have hF1 : Fr (fun b => V.vo.ownBlock = some b) w w1 := (Fr.of_below (ok := fun b => V.vo.ownBlock = some b) hb).trans (Fr.of_grown (ok := fun b => V.vo.ownBlock = some b) hg fun b e => e) fun _ _ e => e
  have hF2 : Fr (fun b => V.vo.ownBlock = some b ∨ b = A) w (w1.setCell ⟨A, 2, none⟩ vo') :=
    (hF1.mono (ok' := fun b => V.vo.ownBlock = some b ∨ b = A) fun _ _ e => .inl e).trans (Fr.of_set (ok := fun b => b = A) (p := ⟨A, 2, none⟩) vo' rfl) fun _ _ e => .inr e
  have hF : Fr (fun b => (V.vo.ownBlock = some b ∨ b = A) ∨ b = V.N) w w3 :=
    (hF2.mono (ok' := fun b => (V.vo.ownBlock = some b ∨ b = A) ∨ b = V.N) fun _ _ e => .inl e).trans (Fr.of_grown (ok := fun b => b = V.N) hg3 fun b e => (Option.some.inj e).symm) fun _ _ e => .inr e
  have hord : St.order ⟨S.p, S.nm.eraseIdx i⟩ = S.order.eraseIdx i := map_eraseIdx _ _ _
  have hrow : ∀ {t : TypeId} {n : Nat} {v : Value} {xs : List Value}, t ≠ 58 → t ≠ 9 → w.ownsRow B t 1 v n xs → w3.ownsRow B t 1 v n xs := fun h1 h2 hw => hF.own hw fun b hb e => by
    obtain ⟨cs, hc⟩ := own_type hw hb
    refine h.not_fp hc h1 h2 ?_
    rcases e with (e | e) | e
    · exact .inr (.inr (.inr (.inl e)))
    · exact .inl e
    · exact .inr (.inr (.inl e))
  have hA1 : Blk w1 A 58 #[.map (some V.P), .map (some V.N), V.vo] := hF1.Blk h.ba fun e => (hro _ e).1 rfl
  refine ⟨⟨⟨lA, lP, lN, hPN⟩, ?_, ?_, ?_, h.vn, fun k => ?_, ?_, h.sep, fun k b e => ?_, fun x hx => ?_, h.cn, h.ok⟩, hF.mono fun b _ e => ?_, fun b e => ?_⟩
  · refine (Fr.of_grown (ok := fun b => b = V.N) hg3 fun b e => (Option.some.inj e).symm).Blk ?_ fun e => hNA e.symm
    have := hA1.put 2 vo'
    simpa using this
  · refine hF.map h.mp ?_
    rintro ((e | e) | e)
    · exact (hro _ e).2.1 rfl
    · exact hPA e
    · exact hPN e
  · refine hm.ext fun l hl => ?_
    rw [hord]
    refine FA_ext (L' := S.order.eraseIdx i) (vf' := V.ev) (F := fun l => if l.sameKey (kS S.order[i]) then none else FA S.order kS V.ev l) kS_key kS_inj (fun a ha => ?_) (fun l hn => ?_) l
    · obtain ⟨h1, h2⟩ := (mem_eraseIdx_nodup hnd hi a).1 ha
      rw [if_neg fun e2 => h2 ((same_iff kS_key kS_inj _ _).1 e2)]
      exact FA_get kS_key kS_inj h1
    · by_cases e : l.sameKey (kS S.order[i]) = true
      · rw [if_pos e]
      · rw [if_neg e]
        refine FA_other kS_key fun a ha e2 => ?_
        by_cases e3 : a = S.order[i]
        · exact e ((WideAt.sameKey_iff (kS_key _)).2 (by rw [e2, e3]))
        · exact hn a ((mem_eraseIdx_nodup hnd hi a).2 ⟨ha, e3⟩) e2
  · refine hF.own (h.of k) fun b hb2 => ?_
    rintro ((e | e) | e)
    · exact h.seo k b hb2 e
    · exact (h.row_ne (h.of k) (by decide) hb2).1 e
    · exact (h.row_ne (h.of k) (by decide) hb2).2.2 e
  · rw [hord, List.length_eraseIdx_of_lt hi]
    refine (Fr.of_grown (ok := fun b => b = V.N) hg3 fun b e => (Option.some.inj e).symm).own (own_setCell ho (p := ⟨A, 2, none⟩) (.inr fun e => ?_) _) fun b e e2 => ?_
    · rw [hk] at e; exact (hro A e).1 rfl
    · rw [hk] at e; exact (hro b e).2.2 e2
  · show vo'.ownBlock ≠ some b
    rw [hk]; exact h.seo k b e
  · obtain ⟨vk2, va2, e, o1, o2⟩ := h.en x (List.mem_of_mem_eraseIdx hx)
    exact ⟨vk2, va2, e, hrow (by decide) (by decide) o1, hrow (by decide) (by decide) o2⟩
  · rcases e with (e | e) | e
    · exact .inr (.inr (.inr (.inl e)))
    · exact .inl e
    · exact .inr (.inr (.inl e))
  · rcases e with e | e | e | e | e
    · exact .inl e
    · exact .inr (.inl e)
    · exact .inr (.inr (.inl e))
    · rw [show ({ V with vo := vo' } : AV).vo = vo' from rfl, hk] at e
      exact .inr (.inr (.inr (.inl e)))
    · exact .inr (.inr (.inr (.inr e)))
end Go.Proofs.YtpfkmjckjomeeaaDoor
