/- A name is added to the archive's memory. -/
import Derived.Test.YtpfkmjckjomeeaaDoorArcPutM
namespace Go.Proofs.YtpfkmjckjomeeaaDoor
open Go.RowKit Arc
open Go.Maps (Keyed)
def entV (vk va : Value) (sz : Nat) : Value := .agg #[vk, va, .int .i64 sz]
def AV.name (V : AV) (n : ByteArray) (vo e : Value) : AV := { V with vo := vo, ev := fun m => if m = n then e else V.ev m, n := V.n + 1 }
theorem AM.addName {B A : Nat} {S : St} {V : AV} {w w6 wi w7 : World} {vo' vk va : Value} {ks : List (BitVec 32 × Nat)} {sz : Nat} (h : AM B A S V w) (name : ByteArray) (hname : name ∉ S.order)
    (hk : w.ownsRow B 63 1 vk ks.length (keysV ks)) (ha : w.ownsRow B 3 1 va ks.length (atsV ks))
    (hm : MapV w6 Tryd.prog 9 V.N (V.n + 1) (fun l => if l.sameKey (kS name) then some (entV vk va sz) else FA S.order kS V.ev l)) (hg6 : w.grownBy w6 (some V.N))
    (hb : Below w6.heap.size w6 wi) (ho : w7.ownsRow B 9 1 vo' (S.order.length + 1) (strs S.order ++ [.string name])) (hg : wi.grownBy w7 V.vo.ownBlock) (hk7 : vo'.ownBlock = V.vo.ownBlock ∨ vo'.ownBlock = some wi.heap.size) :
    AM B A ⟨S.p, S.nm ++ [(name, ⟨ks, sz⟩)]⟩ (V.name name vo' (entV vk va sz)) (w7.setCell ⟨A, 2, none⟩ vo') ∧ Fr (Fp A V) w (w7.setCell ⟨A, 2, none⟩ vo') ∧ ∀ b, Fp A (V.name name vo' (entV vk va sz)) b → Fp A V b ∨ w.heap.size ≤ b := by
  obtain ⟨lA, lP, lN, hPN⟩ := h.lo
  obtain ⟨hPA, hNA⟩ := h.ne_A
  have hro : ∀ b, V.vo.ownBlock = some b → b ≠ A ∧ b ≠ V.P ∧ b ≠ V.N := fun b e => h.row_ne h.oo (by decide) e
  have hF7 : Fr (fun b => b = V.N ∨ V.vo.ownBlock = some b) w w7 :=
    ((Fr.of_grown (ok := fun b => b = V.N ∨ V.vo.ownBlock = some b) hg6 fun b e => .inl (Option.some.inj e).symm).trans (Fr.of_below (ok := fun b => b = V.N ∨ V.vo.ownBlock = some b) hb) fun _ _ e => e).trans (Fr.of_grown (ok := fun b => b = V.N ∨ V.vo.ownBlock = some b) hg fun b e => .inr e) fun _ _ e => e
  have hF : Fr (fun b => (b = V.N ∨ V.vo.ownBlock = some b) ∨ b = A) w (w7.setCell ⟨A, 2, none⟩ vo') :=
    (hF7.mono (ok' := fun b => (b = V.N ∨ V.vo.ownBlock = some b) ∨ b = A) fun _ _ e => .inl e).trans (Fr.of_set (ok := fun b => b = A) (p := ⟨A, 2, none⟩) vo' rfl) fun _ _ e => .inr e
  have hsz : w.heap.size ≤ wi.heap.size := Nat.le_trans hg6.size hb.size
  have hnew : ∀ b, vo'.ownBlock = some b → V.vo.ownBlock = some b ∨ w.heap.size ≤ b := fun b e => by
    rcases hk7 with e2 | e2
    · exact .inl (e2 ▸ e)
    · right; rw [e2] at e; have := Option.some.inj e; omega
  have hltA := h.ba.lt
  have hord : St.order ⟨S.p, S.nm ++ [(name, ⟨ks, sz⟩)]⟩ = S.order ++ [name] := by simp [St.order]
  have evn : (V.name name vo' (entV vk va sz)).ev name = entV vk va sz := by unfold AV.name; dsimp only; rw [if_pos rfl]
  have evo : ∀ m, m ≠ name → (V.name name vo' (entV vk va sz)).ev m = V.ev m := fun m hm => by unfold AV.name; dsimp only; rw [if_neg hm]
  have hrow : ∀ {t : TypeId} {n : Nat} {v : Value} {xs : List Value}, t ≠ 58 → t ≠ 9 → w.ownsRow B t 1 v n xs → (w7.setCell ⟨A, 2, none⟩ vo').ownsRow B t 1 v n xs := fun h1 h2 hw => hF.own hw fun b hb e => by
    obtain ⟨cs, hc⟩ := own_type hw hb
    refine h.not_fp hc h1 h2 ?_
    rcases e with (e | e) | e
    · exact .inr (.inr (.inl e))
    · exact .inr (.inr (.inr (.inl e)))
    · exact .inl e
  have hA7 : Blk w7 A 58 #[.map (some V.P), .map (some V.N), V.vo] := hF7.Blk h.ba fun e => by
    rcases e with e | e
    · exact hNA e.symm
    · exact (hro _ e).1 rfl
  refine ⟨⟨⟨lA, lP, lN, hPN⟩, ?_, ?_, ?_, h.vn, fun k => ?_, ?_, h.sep, fun k b e => ?_, fun x hx => ?_, fun k => ?_, h.ok⟩, hF.mono fun b _ e => ?_, fun b e => ?_⟩
  · have h2 : Blk (w7.setCell ⟨A, 2, none⟩ vo') A 58 #[.map (some V.P), .map (some V.N), vo'] := by have := hA7.put 2 vo'; simpa using this
    exact h2
  · refine (hF.map h.mp ?_).mono (Nat.le_succ _)
    rintro ((e | e) | e)
    · exact hPN e
    · exact (hro _ e).2.1 rfl
    · exact hPA e
  · have h1 : MapV (w7.setCell ⟨A, 2, none⟩ vo') Tryd.prog 9 V.N (V.n + 1) (fun l => if l.sameKey (kS name) then some (entV vk va sz) else FA S.order kS V.ev l) := by
      refine ((hm.later hb).kept hg fun e => ?_).setCell (a := ⟨A, 2, none⟩) ?_ _
      · exact (hro _ e.symm).2.2 rfl
      · exact hNA
    refine h1.ext fun l _ => ?_
    rw [hord]
    refine FA_ext (L' := S.order ++ [name]) (vf' := (V.name name vo' (entV vk va sz)).ev) (F := fun l => if l.sameKey (kS name) then some (entV vk va sz) else FA S.order kS V.ev l) kS_key kS_inj (fun a ha => ?_) (fun l hn => ?_) l
    · by_cases e : a = name
      · subst e; rw [if_pos ((same_iff kS_key kS_inj _ _).2 rfl), evn]
      · rw [if_neg fun e2 => e ((same_iff kS_key kS_inj _ _).1 e2), evo a e]
        rcases List.mem_append.1 ha with h2 | h2
        · exact FA_get kS_key kS_inj h2
        · exact absurd (List.mem_singleton.1 h2) e
    · rw [if_neg fun e2 => hn name (by simp) ((WideAt.sameKey_iff (kS_key _)).1 e2)]
      exact FA_other kS_key fun a ha => hn a (List.mem_append_left _ ha)
  · refine hF.own (h.of k) fun b hb2 => ?_
    rintro ((e | e) | e)
    · exact (h.row_ne (h.of k) (by decide) hb2).2.2 e
    · exact h.seo k b hb2 e
    · exact (h.row_ne (h.of k) (by decide) hb2).1 e
  · rw [hord, List.length_append, strs_snoc]
    refine own_setCell ho (p := ⟨A, 2, none⟩) (.inr fun e => ?_) _
    rcases hnew A e with e2 | e2
    · exact (hro A e2).1 rfl
    · omega
  · show vo'.ownBlock ≠ some b
    intro e2
    rcases hnew b e2 with e3 | e3
    · exact h.seo k b e e3
    · have := (own_lt (h.of k) b e).2; omega
  · rcases List.mem_append.1 hx with h2 | h2
    · obtain ⟨vk2, va2, e, o1, o2⟩ := h.en x h2
      have hne : x.1 ≠ name := fun e2 => hname (by rw [← e2]; exact List.mem_map_of_mem h2)
      exact ⟨vk2, va2, by rw [evo _ hne]; exact e, hrow (by decide) (by decide) o1, hrow (by decide) (by decide) o2⟩
    · obtain rfl := List.mem_singleton.1 h2
      exact ⟨vk, va, evn, hrow (by decide) (by decide) hk, hrow (by decide) (by decide) ha⟩
  · have := h.cn k; show (S.p.f k).length ≤ V.n + 1; omega
  · rcases e with (e | e) | e
    · exact .inr (.inr (.inl e))
    · exact .inr (.inr (.inr (.inl e)))
    · exact .inl e
  · rcases e with e | e | e | e | ⟨k, e⟩
    · exact .inl (.inl e)
    · exact .inl (.inr (.inl e))
    · exact .inl (.inr (.inr (.inl e)))
    · rcases hnew b e with e3 | e3
      · exact .inl (.inr (.inr (.inr (.inl e3))))
      · exact .inr e3
    · exact .inl (.inr (.inr (.inr (.inr ⟨k, e⟩))))
end Go.Proofs.YtpfkmjckjomeeaaDoor
