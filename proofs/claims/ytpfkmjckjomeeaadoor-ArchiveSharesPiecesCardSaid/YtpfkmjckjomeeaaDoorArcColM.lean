/- What Collect does to the archive's memory; and what it makes of the archive, in plain words. -/
import Derived.Test.YtpfkmjckjomeeaaDoorArcStats
namespace Go.Proofs.YtpfkmjckjomeeaaDoor
open Go.RowKit Arc
open Go.Maps (Keyed)
section
variable {B A : Nat} {S : St} {V V1 V2 : AV} {w w' : World}
/-- The map of pieces is made anew. -/
theorem AM.clear (h : AM B A S V w) :
    AM B A ⟨Pcs.none, S.nm⟩ { V with P := w.heap.size, vf := fun _ => .slice none 0 0 } ((w.setCell ⟨A, 0, none⟩ (.map (some w.heap.size))).alloc (.map #[] 0)) ∧ Fr (Fp A V) w ((w.setCell ⟨A, 0, none⟩ (.map (some w.heap.size))).alloc (.map #[] 0)) ∧
      ∀ b, Fp A { V with P := w.heap.size, vf := fun _ => .slice none 0 0 } b → (b = A ∨ b = V.N ∨ V.vo.ownBlock = some b) ∨ b = w.heap.size := by
  obtain ⟨lA, lP, lN, hPN⟩ := h.lo
  obtain ⟨hPA, hNA⟩ := h.ne_A
  have hltA := h.ba.lt
  have hltN := h.mn.lt
  have hF : Fr (fun b => b = A) w ((w.setCell ⟨A, 0, none⟩ (.map (some w.heap.size))).alloc (.map #[] 0)) := (Fr.of_set (ok := fun b => b = A) (p := ⟨A, 0, none⟩) _ rfl).then ((Below.refl _ _).alloc (Nat.le_refl _) _)
  have hmade := MapV.made (w.setCell ⟨A, 0, none⟩ (.map (some w.heap.size))) Tryd.prog 63
  rw [show (w.setCell ⟨A, 0, none⟩ (.map (some w.heap.size))).heap.size = w.heap.size by simp [World.setCell]] at hmade
  have hrow : ∀ {t : TypeId} {n : Nat} {v : Value} {xs : List Value}, t ≠ 58 → w.ownsRow B t 1 v n xs → ((w.setCell ⟨A, 0, none⟩ (.map (some w.heap.size))).alloc (.map #[] 0)).ownsRow B t 1 v n xs := fun h1 hw => hF.own hw fun b hb e => (h.row_ne hw h1 hb).1 e
  refine ⟨⟨⟨lA, by show B ≤ w.heap.size; omega, lN, by show w.heap.size ≠ V.N; omega⟩, ?_, ?_, hF.map h.mn hNA, fun k _ => rfl, fun k => World.ownsRow_nil _ _ _ _, hrow (by decide) h.oo, fun k k' b _ e => ?_, fun k b e => ?_, fun x hx => ?_, fun k => Nat.zero_le _, Pcs.none_ok⟩, hF.mono fun b _ e => .inl e, fun b e => ?_⟩
  · have := (h.ba.put 0 (.map (some w.heap.size))).alloc (.map #[] 0)
    simpa using this
  · exact (hmade.ext (G := FA Pcs.none.L kU fun _ => .slice none 0 0) fun l _ => rfl).mono (Nat.zero_le _)
  · simp [Value.ownBlock] at e
  · simp [Value.ownBlock] at e
  · obtain ⟨vk, va, e, o1, o2⟩ := h.en x hx
    exact ⟨vk, va, e, hrow (by decide) o1, hrow (by decide) o2⟩
  · rcases e with e | e | e | e | ⟨k, e⟩
    · exact .inl (.inl e)
    · exact .inr e
    · exact .inl (.inr (.inl e))
    · exact .inl (.inr (.inr e))
    · simp [Value.ownBlock] at e
/-- The former pieces stay where they were. -/
structure OldM (B A : Nat) (p : Pcs) (V0 V : AV) (w : World) : Prop where
  mp : MapV w Tryd.prog 63 V0.P V0.n (FA p.L kU V0.vf)
  of : ∀ k, w.ownsRow B 9 1 (V0.vf k) (p.f k).length (strs (p.f k))
  vn : ∀ k, k ∉ p.L → V0.vf k = .slice none 0 0
  hP : ¬ Fp A V V0.P
  hf : ∀ k b, (V0.vf k).ownBlock = some b → ¬ Fp A V b
theorem OldM.step {p : Pcs} {V0 : AV} (h : OldM B A p V0 V1 w) (hf : Fr (Fp A V1) w w') (hn : ∀ b, Fp A V2 b → Fp A V1 b ∨ w.heap.size ≤ b) : OldM B A p V0 V2 w' :=
  ⟨hf.map h.mp h.hP, fun k => hf.own (h.of k) fun b hb => h.hf k b hb, h.vn, fun e => by
    rcases hn _ e with e | e
    · exact h.hP e
    · have := h.mp.lt; omega, fun k b hb e => by
    rcases hn _ e with e | e
    · exact h.hf k b hb e
    · have := (own_lt (h.of k) b hb).2; omega⟩
theorem OldM.look {p : Pcs} {V0 : AV} (h : OldM B A p V0 V1 w) (k : BitVec 32) : (Instr.lookup 55 (.map (some V0.P)) (.int .u32 (k.toNat : Int)) false).run Tryd.prog w = .ok (V0.vf k) w := by
  have := (h.mp.look lawU Tryd.underlying55 (zeroP w) (keyU k)).1
  rw [this]
  by_cases hk : k ∈ p.L
  · rw [FA_get kU_key kU_inj hk]; rfl
  · rw [FA_none kU_key kU_inj hk, h.vn k hk]; rfl
theorem AM.old (h : AM B A S V w) : OldM B A S.p V { V with P := w.heap.size, vf := fun _ => .slice none 0 0 } ((w.setCell ⟨A, 0, none⟩ (.map (some w.heap.size))).alloc (.map #[] 0)) := by
  obtain ⟨h1, h2, h3⟩ := h.clear
  obtain ⟨hPA, hNA⟩ := h.ne_A
  have hF : Fr (fun b => b = A) w ((w.setCell ⟨A, 0, none⟩ (.map (some w.heap.size))).alloc (.map #[] 0)) := (Fr.of_set (ok := fun b => b = A) (p := ⟨A, 0, none⟩) _ rfl).then ((Below.refl _ _).alloc (Nat.le_refl _) _)
  refine ⟨hF.map h.mp hPA, fun k => hF.own (h.of k) fun b hb e => (h.row_ne (h.of k) (by decide) hb).1 e, h.vn, fun e => ?_, fun k b hb e => ?_⟩
  · rcases h3 _ e with (e | e | e) | e
    · exact hPA e
    · exact h.lo.2.2.2 e
    · exact (h.row_ne h.oo (by decide) e).2.1 rfl
    · have := h.mp.lt; omega
  · rcases h3 _ e with (e | e | e) | e
    · exact (h.row_ne (h.of k) (by decide) hb).1 e
    · exact (h.row_ne (h.of k) (by decide) hb).2.2 e
    · exact h.seo k b hb e
    · have := (own_lt (h.of k) b hb).2; omega
/-- A name's entry is set anew. -/
theorem AM.setName {p : Pcs} {pre post : List (ByteArray × Ent)} {old : Ent} {name : ByteArray} {w6 : World} {vk va : Value} {ks : List (BitVec 32 × Nat)} {sz : Nat} (h : AM B A ⟨p, pre ++ (name, old) :: post⟩ V w) (hnd : (St.order ⟨p, pre ++ (name, old) :: post⟩).Nodup)
    (hk : w.ownsRow B 63 1 vk ks.length (keysV ks)) (ha : w.ownsRow B 3 1 va ks.length (atsV ks))
    (hm : MapV w6 Tryd.prog 9 V.N (V.n + 1) (fun l => if l.sameKey (kS name) then some (entV vk va sz) else FA (St.order ⟨p, pre ++ (name, old) :: post⟩) kS V.ev l)) (hg6 : w.grownBy w6 (some V.N)) :
    AM B A ⟨p, pre ++ (name, ⟨ks, sz⟩) :: post⟩ (V.name name V.vo (entV vk va sz)) w6 ∧ Fr (Fp A V) w w6 ∧ ∀ b, Fp A (V.name name V.vo (entV vk va sz)) b → Fp A V b := by
  obtain ⟨lA, lP, lN, hPN⟩ := h.lo
  obtain ⟨hPA, hNA⟩ := h.ne_A
  have hF : Fr (fun b => b = V.N) w w6 := Fr.of_grown (ok := fun b => b = V.N) hg6 fun b e => (Option.some.inj e).symm
  have hord : St.order ⟨p, pre ++ (name, ⟨ks, sz⟩) :: post⟩ = St.order ⟨p, pre ++ (name, old) :: post⟩ := by simp [St.order]
  have evn : (V.name name V.vo (entV vk va sz)).ev name = entV vk va sz := by unfold AV.name; dsimp only; rw [if_pos rfl]
  have evo : ∀ m, m ≠ name → (V.name name V.vo (entV vk va sz)).ev m = V.ev m := fun m hm => by unfold AV.name; dsimp only; rw [if_neg hm]
  have hrow : ∀ {t : TypeId} {n : Nat} {v : Value} {xs : List Value}, t ≠ 58 → w.ownsRow B t 1 v n xs → w6.ownsRow B t 1 v n xs := fun h1 hw => hF.own hw fun b hb e => (h.row_ne hw h1 hb).2.2 e
  have hino : name ∈ St.order ⟨p, pre ++ (name, old) :: post⟩ := by simp [St.order]
  have hnn : ∀ x, (x ∈ pre ∨ x ∈ post) → x.1 ≠ name := fun x hx e => by
    have hnd2 : (pre.map Prod.fst ++ name :: post.map Prod.fst).Nodup := by simpa [St.order] using hnd
    obtain ⟨n1, n2, n3⟩ := List.nodup_append.1 hnd2
    rcases hx with hx | hx
    · exact n3 x.1 (List.mem_map_of_mem hx) name (by simp) e
    · exact (List.nodup_cons.1 n2).1 (by rw [← e]; exact List.mem_map_of_mem hx)
  refine ⟨⟨⟨lA, lP, lN, hPN⟩, hF.Blk h.ba fun e => hNA e.symm, (hF.map h.mp hPN).mono (Nat.le_succ _), ?_, h.vn, fun k => hrow (by decide) (h.of k), ?_, h.sep, h.seo, fun x hx => ?_, fun k => ?_, h.ok⟩, hF.mono fun b _ e => .inr (.inr (.inl e)), fun b e => e⟩
  · refine hm.ext fun l hl => ?_
    rw [hord]
    refine FA_ext (L' := St.order ⟨p, pre ++ (name, old) :: post⟩) (vf' := (V.name name V.vo (entV vk va sz)).ev) (F := fun l => if l.sameKey (kS name) then some (entV vk va sz) else FA (St.order ⟨p, pre ++ (name, old) :: post⟩) kS V.ev l) kS_key kS_inj (fun a ha => ?_) (fun l hn => ?_) l
    · by_cases e : a = name
      · subst e; rw [if_pos ((same_iff kS_key kS_inj _ _).2 rfl), evn]
      · rw [if_neg fun e2 => e ((same_iff kS_key kS_inj _ _).1 e2), evo a e]
        exact FA_get kS_key kS_inj ha
    · rw [if_neg fun e2 => hn name hino ((WideAt.sameKey_iff (kS_key _)).1 e2)]
      exact FA_other kS_key hn
  · rw [hord]; exact hrow (by decide) h.oo
  · have hx2 : x = (name, ⟨ks, sz⟩) ∨ (x ∈ pre ∨ x ∈ post) := by
      rcases List.mem_append.1 hx with h1 | h1
      · exact .inr (.inl h1)
      · rcases List.mem_cons.1 h1 with h1 | h1
        · exact .inl h1
        · exact .inr (.inr h1)
    rcases hx2 with rfl | hx2
    · exact ⟨vk, va, evn, hrow (by decide) hk, hrow (by decide) ha⟩
    · have hx3 : x ∈ (⟨p, pre ++ (name, old) :: post⟩ : St).nm := by
        rcases hx2 with h1 | h1 <;> simp [h1]
      obtain ⟨vk2, va2, e, o1, o2⟩ := h.en x hx3
      exact ⟨vk2, va2, by rw [evo _ (hnn x hx2)]; exact e, hrow (by decide) o1, hrow (by decide) o2⟩
  · have := h.cn k; show (p.f k).length ≤ V.n + 1; have e : (St.p ⟨p, pre ++ (name, old) :: post⟩) = p := rfl; rw [e] at this; omega
end
namespace Arc
/-- An archive of data, each under its name. -/
def build (d : List (ByteArray × ByteArray)) : St := d.foldl (fun S x => S.add x.1 x.2) St.none
structure St.Has (S : St) (d : List (ByteArray × ByteArray)) : Prop where
  nm : S.order = d.map Prod.fst
  en : ∀ (i : Nat) (x : ByteArray × Ent) (y : ByteArray × ByteArray), S.nm[i]? = some x → d[i]? = some y → x.2.size = y.2.size ∧ S.p.look x.2.ks (parts y.2)
  ok : S.p.Ok
theorem build_snoc (d : List (ByteArray × ByteArray)) (x : ByteArray × ByteArray) : build (d ++ [x]) = (build d).add x.1 x.2 := by unfold build; rw [List.foldl_append]; rfl
theorem St.Has.add {S : St} {d : List (ByteArray × ByteArray)} (h : S.Has d) (n s : ByteArray) : (S.add n s).Has (d ++ [(n, s)]) := by
  obtain ⟨s1, s2, s3⟩ := Pcs.store_ok h.ok (parts s)
  have hlen : S.nm.length = d.length := by
    have := congrArg List.length h.nm
    simpa [St.order] using this
  refine ⟨?_, fun i x y hx hy => ?_, s1⟩
  · have := h.nm; unfold St.order at this ⊢; simp [St.add, this]
  · unfold St.add at hx ⊢; dsimp only at hx ⊢
    by_cases hi : i < d.length
    · rw [List.getElem?_append_left (by omega)] at hx
      rw [List.getElem?_append_left (by omega)] at hy
      obtain ⟨a, b⟩ := h.en i x y hx hy
      exact ⟨a, s2.look b⟩
    · have hi2 : i = d.length := by
        have := (List.getElem?_eq_some_iff.1 hy).1; simp at this; omega
      subst hi2
      rw [List.getElem?_append_right (by omega)] at hx
      rw [List.getElem?_append_right (by omega)] at hy
      simp [hlen] at hx hy
      subst hx hy
      exact ⟨rfl, s3⟩
theorem none_has : St.none.Has [] := ⟨rfl, fun i x y hx => by simp [St.none] at hx, Pcs.none_ok⟩
theorem build_has (d : List (ByteArray × ByteArray)) : (build d).Has d := by
  have key : ∀ (d e : List (ByteArray × ByteArray)) (S : St), S.Has e → (d.foldl (fun S x => S.add x.1 x.2) S).Has (e ++ d) := by
    intro d
    induction d with
    | nil => intro e S h; simpa using h
    | cons x r ih =>
      intro e S h
      have := ih (e ++ [x]) (S.add x.1 x.2) (h.add x.1 x.2)
      simpa using this
  have := key d [] St.none none_has
  unfold build; simpa using this
theorem St.Has.drop {S : St} {d : List (ByteArray × ByteArray)} (h : S.Has d) (k : Nat) : St.Has ⟨S.p, S.nm.eraseIdx k⟩ (d.eraseIdx k) := by
  refine ⟨?_, fun i x y hx hy => ?_, h.ok⟩
  · have := h.nm; unfold St.order at this ⊢; dsimp only; rw [map_eraseIdx, map_eraseIdx, this]
  · dsimp only at hx ⊢
    rw [List.getElem?_eraseIdx] at hx hy
    split at hx
    · rename_i hi; rw [if_pos hi] at hy; exact h.en i x y hx hy
    · rename_i hi; rw [if_neg hi] at hy; exact h.en (i + 1) x y hx hy
/-- How many bytes data have. -/
def total (d : List (ByteArray × ByteArray)) : Nat := (d.map fun x => x.2.size).sum
theorem St.Has.bytes {S : St} {d : List (ByteArray × ByteArray)} (h : S.Has d) : S.bytes = total d := by
  unfold St.bytes total
  have hlen : S.nm.length = d.length := by
    have := congrArg List.length h.nm
    simpa [St.order] using this
  congr 1
  refine List.ext_getElem? fun i => ?_
  rw [List.getElem?_map, List.getElem?_map]
  by_cases hi : i < d.length
  · rw [List.getElem?_eq_getElem hi, List.getElem?_eq_getElem (by omega)]
    exact congrArg some (h.en i _ _ (List.getElem?_eq_getElem (by omega)) (List.getElem?_eq_getElem hi)).1
  · rw [List.getElem?_eq_none (by omega), List.getElem?_eq_none (by omega)]; rfl
theorem sum_le_of {α : Type} (l : List α) (f g : α → Nat) (h : ∀ x ∈ l, f x ≤ g x) : (l.map f).sum ≤ (l.map g).sum := by
  induction l with
  | nil => exact Nat.le_refl _
  | cons a r ih =>
    have h1 := h a (by simp)
    have h2 := ih fun x hx => h x (by simp [hx])
    simp only [List.map_cons, List.sum_cons]; omega
/-- What a piece adds to counts over the checksums. -/
theorem sum_add (p : Pcs) (h : p.Ok) (s : ByteArray) (f : List ByteArray → Nat) (h0 : f [] = 0) (c : Nat) (hc : ∀ l, f (l ++ [s]) = f l + c) : ((p.add s).L.map fun k => f ((p.add s).f k)).sum = (p.L.map fun k => f (p.f k)).sum + c := by
  have hother : ∀ k, k ≠ key s → (p.add s).f k = p.f k := fun k hk => by unfold Pcs.add; dsimp only; rw [if_neg hk]
  have hself : (p.add s).f (key s) = p.f (key s) ++ [s] := by unfold Pcs.add; dsimp only; rw [if_pos rfl]
  by_cases hin : key s ∈ p.L
  · have hL : (p.add s).L = p.L := by unfold Pcs.add; dsimp only; rw [if_pos hin]
    rw [hL]
    obtain ⟨a, b, hab⟩ := List.append_of_mem hin
    have hnd := h.nd
    rw [hab] at hnd
    obtain ⟨n1, n2, n3⟩ := List.nodup_append.1 hnd
    obtain ⟨n4, _⟩ := List.nodup_cons.1 n2
    have ea : (a.map fun k => f ((p.add s).f k)) = a.map fun k => f (p.f k) := List.map_congr_left fun k hk => by rw [hother k fun e => n3 k hk (key s) (by simp) e]
    have eb : (b.map fun k => f ((p.add s).f k)) = b.map fun k => f (p.f k) := List.map_congr_left fun k hk => by rw [hother k fun e => n4 (e ▸ hk)]
    rw [hab, List.map_append, List.map_append, List.map_cons, List.map_cons, ea, eb, hself, hc]
    simp only [List.sum_append, List.sum_cons]; omega
  · have hL : (p.add s).L = p.L ++ [key s] := by unfold Pcs.add; dsimp only; rw [if_neg hin]
    have he : p.f (key s) = [] := by
      cases hf : p.f (key s) with
      | nil => rfl
      | cons x r => exact absurd ((h.em (key s)).1 (by rw [hf]; simp)) hin
    have ea : (p.L.map fun k => f ((p.add s).f k)) = p.L.map fun k => f (p.f k) := List.map_congr_left fun k hk => by rw [hother k fun e => hin (e ▸ hk)]
    rw [hL, List.map_append, List.sum_append, ea, List.map_singleton, hself, he, hc, h0]
    simp
theorem Pcs.keep_cnt {p : Pcs} (h : p.Ok) (s : ByteArray) : (p.keep s).1.cnt ≤ p.cnt + 1 ∧ (p.keep s).1.sto ≤ p.sto + s.size := by
  unfold Pcs.keep
  by_cases hs : s ∈ p.f (key s)
  · rw [if_pos hs]; exact ⟨Nat.le_succ _, Nat.le_add_right _ _⟩
  · rw [if_neg hs]
    refine ⟨Nat.le_of_eq ?_, Nat.le_of_eq ?_⟩
    · exact sum_add p h s List.length rfl 1 fun l => by simp
    · exact sum_add p h s sizes rfl s.size fun l => by simp [sizes, List.sum_append]
theorem Pcs.store_cnt {p : Pcs} (h : p.Ok) (l : List ByteArray) : (p.store l).1.cnt ≤ p.cnt + l.length ∧ (p.store l).1.sto ≤ p.sto + sizes l := by
  induction l generalizing p with
  | nil => exact ⟨Nat.le_refl _, Nat.le_refl _⟩
  | cons x r ih =>
    obtain ⟨a, b⟩ := keep_cnt h x
    obtain ⟨c, d⟩ := ih (keep_ok h x).1
    simp only [Pcs.store, sizes, List.map_cons, List.sum_cons, List.length_cons] at c d ⊢
    omega
theorem cat_sizes (l : List ByteArray) : (cat l).length = sizes l := by
  induction l with
  | nil => rfl
  | cons a r ih =>
    simp only [cat, List.flatMap_cons, List.length_append, Array.length_toList, ByteArray.size_data] at ih ⊢
    simp only [sizes, List.map_cons, List.sum_cons] at ih ⊢
    rw [ih]
theorem parts_sizes (s : ByteArray) : sizes (parts s) = s.size := by
  rw [← cat_sizes, parts_cat, Array.length_toList, ByteArray.size_data]
theorem parts_length (s : ByteArray) : (parts s).length ≤ s.size := by
  unfold parts; rw [split_length]; exact cuts_length_le s
theorem build_cnt (d : List (ByteArray × ByteArray)) : (build d).p.cnt ≤ total d ∧ (build d).p.sto ≤ total d := by
  have key : ∀ (d : List (ByteArray × ByteArray)) (S : St), S.p.Ok → (d.foldl (fun S x => S.add x.1 x.2) S).p.cnt ≤ S.p.cnt + total d ∧ (d.foldl (fun S x => S.add x.1 x.2) S).p.sto ≤ S.p.sto + total d := by
    intro d
    induction d with
    | nil => intro S _; exact ⟨Nat.le_refl _, Nat.le_refl _⟩
    | cons x r ih =>
      intro S h
      obtain ⟨a, b⟩ := Pcs.store_cnt h (parts x.2)
      obtain ⟨c, e⟩ := ih (S.add x.1 x.2) (Pcs.store_ok h (parts x.2)).1
      have e1 : (S.add x.1 x.2).p = (S.p.store (parts x.2)).1 := rfl
      rw [e1] at c e
      rw [parts_sizes] at b
      have := parts_length x.2
      have ht : total (x :: r) = x.2.size + total r := by simp [total]
      rw [ht]
      rw [List.foldl_cons]
      omega
  have := key d St.none Pcs.none_ok
  have e1 : St.none.p.cnt = 0 := rfl
  have e2 : St.none.p.sto = 0 := rfl
  rw [e1, e2] at this
  unfold build; omega
theorem total_take (d : List (ByteArray × ByteArray)) (i : Nat) (h : i < d.length) : total (d.take (i + 1)) = total (d.take i) + d[i].2.size := by
  rw [List.take_succ_eq_append_getElem h]; unfold total; rw [List.map_append, List.sum_append]; simp
theorem total_take_le (d : List (ByteArray × ByteArray)) (i : Nat) : total (d.take i) ≤ total d := by
  have : total d = total (d.take i) + total (d.drop i) := by
    conv => lhs; rw [← List.take_append_drop i d]
    unfold total; rw [List.map_append, List.sum_append]
  omega
/-- The archive while it is collected: the first i names anew. -/
def St.mid (S : St) (d : List (ByteArray × ByteArray)) (i : Nat) : St := ⟨(build (d.take i)).p, (build (d.take i)).nm ++ S.nm.drop i⟩
theorem St.Has.mid_order {S : St} {d : List (ByteArray × ByteArray)} (h : S.Has d) (i : Nat) : (S.mid d i).order = S.order := by
  have h1 := (build_has (d.take i)).nm
  have h2 := h.nm
  unfold St.mid St.order at *
  dsimp only
  rw [List.map_append, h1, h2, List.map_drop, h2, ← List.map_drop, ← List.map_append, List.take_append_drop]
theorem St.mid_succ {S : St} {d : List (ByteArray × ByteArray)} (i : Nat) (h : i < d.length) : S.mid d (i + 1) = ⟨((build (d.take i)).p.store (parts d[i].2)).1, (build (d.take i)).nm ++ (d[i].1, ⟨((build (d.take i)).p.store (parts d[i].2)).2, d[i].2.size⟩) :: S.nm.drop (i + 1)⟩ := by
  unfold St.mid
  rw [List.take_succ_eq_append_getElem h, build_snoc]
  simp [St.add]
theorem St.Has.mid_split {S : St} {d : List (ByteArray × ByteArray)} (h : S.Has d) (i : Nat) (hi : i < d.length) : ∃ x : Ent, S.nm[i]? = some (d[i].1, x) ∧ S.mid d i = ⟨(build (d.take i)).p, (build (d.take i)).nm ++ (d[i].1, x) :: S.nm.drop (i + 1)⟩ ∧ x.size = d[i].2.size ∧ S.p.look x.ks (parts d[i].2) := by
  have hlen : S.nm.length = d.length := by
    have := congrArg List.length h.nm
    simpa [St.order] using this
  have hi2 : i < S.nm.length := by omega
  have e := congrArg (fun l => l[i]?) h.nm
  simp only [St.order, List.getElem?_map, List.getElem?_eq_getElem hi2, List.getElem?_eq_getElem hi, Option.map_some, Option.some.injEq] at e
  obtain ⟨a, b⟩ := h.en i _ _ (List.getElem?_eq_getElem hi2) (List.getElem?_eq_getElem hi)
  refine ⟨S.nm[i].2, ?_, ?_, a, b⟩
  · rw [List.getElem?_eq_getElem hi2, ← e]
  · unfold St.mid
    rw [List.drop_eq_getElem_cons hi2, ← e]
theorem St.mid_end {S : St} {d : List (ByteArray × ByteArray)} (h : S.Has d) : S.mid d d.length = build d := by
  have hlen : S.nm.length = d.length := by
    have := congrArg List.length h.nm
    simpa [St.order] using this
  unfold St.mid
  rw [List.take_length, List.drop_of_length_le (by omega), List.append_nil]
end Arc
/-- What a round of Collect reads. -/
theorem col_cells {B A : Nat} {p0 : Pcs} {V V1 V2 : AV} {w4 wq : World} {E X z m j : Nat} {vl vk va : Value} {ll : List Nat} {S1 S2 : St} {ks ks2 : List (BitVec 32 × Nat)} {l : List ByteArray} {Ak Aa : Option Addr} {ck ca : Nat}
    (PM : PuM B A V1 w4 E vl ll z S2 V2 vk va ks2 wq) (old4 : OldM B A p0 V V1 w4) (am4 : AM B A S1 V1 w4) (ok : w4.ownsRow B 63 1 (.slice Ak m ck) m (keysV ks)) (oa : w4.ownsRow B 3 1 (.slice Aa m ca) m (atsV ks)) (hl : p0.look ks l) (hm : ks.length = m)
    (hX : Blk w4 X 62 #[.slice Ak m ck, .slice Aa m ca, .int .i64 (z : Int)]) (hj : j < m) :
    ∃ (gk ga gp cp np : Nat) (k : BitVec 32) (i : Nat) (p : ByteArray), Ak = some ⟨gk, 0, none⟩ ∧ Aa = some ⟨ga, 0, none⟩ ∧ wq.cell? ⟨gk, j, none⟩ = some (.int .u32 (k.toNat : Int)) ∧ i < np ∧ np ≤ 9223372036854775807 ∧ V.vf k = .slice (some ⟨gp, 0, none⟩) np cp ∧ l.take (j + 1) = l.take j ++ [p] ∧ p ∈ l ∧
      ∀ w', Fr (Fp A V2) wq w' → w'.cell? ⟨X, 1, none⟩ = some (.slice (some ⟨ga, 0, none⟩) m ca) ∧ w'.cell? ⟨ga, j, none⟩ = some (.int .i64 (i : Int)) ∧ w'.cell? ⟨gp, i, none⟩ = some (.string p) ∧ (Instr.lookup 55 (.map (some V.P)) (.int .u32 (k.toNat : Int)) false).run Tryd.prog w' = .ok (.slice (some ⟨gp, 0, none⟩) np cp) w' := by
  have hj1 : j < ks.length := by omega
  have hj2 : j < l.length := by have := hl.1; omega
  have hp := hl.2 j ks[j] l[j] (List.getElem?_eq_getElem hj1) (List.getElem?_eq_getElem hj2)
  have hi := (List.getElem?_eq_some_iff.1 hp).1
  obtain ⟨gk, _, e1, _⟩ := own_cells ok (by omega)
  obtain ⟨ga, _, e2, _⟩ := own_cells oa (by omega)
  obtain ⟨gp, cp, e3, _, _, _, p3, _⟩ := own_cells (old4.of ks[j].1) (by omega)
  injection e1 with e1; injection e2 with e2
  unfold maxLen at p3
  have hXb : ¬ Fp A V1 X := by have := hX; unfold Blk at this; exact am4.not_fp this (by decide) (by decide)
  have nfk : ∀ b, (Value.slice Ak m ck).ownBlock = some b → ¬ Fp A V1 b := fun b hb => by
    obtain ⟨cs, hc⟩ := own_type ok hb; exact am4.not_fp hc (by decide) (by decide)
  have nfa : ∀ b, (Value.slice Aa m ca).ownBlock = some b → ¬ Fp A V1 b := fun b hb => by
    obtain ⟨cs, hc⟩ := own_type oa hb; exact am4.not_fp hc (by decide) (by decide)
  have hfr : ∀ w', Fr (Fp A V2) wq w' → Fr (Fp A V1) w4 w' := fun w' hf => PM.fr.trans hf fun b hb e => by
    rcases PM.fn b e with e | e
    · exact e
    · omega
  refine ⟨gk, ga, gp, cp, _, ks[j].1, ks[j].2, l[j], e1, e2, ?_, hi, by omega, e3, by rw [List.take_succ_eq_append_getElem hj2], List.getElem_mem hj2, fun w' hf => ?_⟩
  · obtain ⟨g, _, e, _, _, _, _, hc⟩ := own_cells (PM.fr.own ok nfk) (by omega)
    rw [e1] at e; injection e with e; injection e with e; injection e with e
    rw [e]
    refine hc j _ ?_
    unfold keysV; rw [List.getElem?_map, List.getElem?_eq_getElem hj1]; rfl
  · have hf4 := hfr w' hf
    have o4 := old4.step hf4 (V2 := V1) fun b e => .inl e
    refine ⟨?_, ?_, ?_, ?_⟩
    · have := (hf4.Blk hX hXb).cell 1
      rw [← e2]; exact this
    · obtain ⟨g, _, e, _, _, _, _, hc⟩ := own_cells (hf4.own oa nfa) (by omega)
      rw [e2] at e; injection e with e; injection e with e; injection e with e
      rw [e]
      refine hc j _ ?_
      unfold atsV; rw [List.getElem?_map, List.getElem?_eq_getElem hj1]; rfl
    · obtain ⟨g, _, e, _, _, _, _, hc⟩ := own_cells (o4.of ks[j].1) (by omega)
      rw [e3] at e; injection e with e; injection e with e; injection e with e
      rw [e]
      refine hc _ _ ?_
      unfold strs; rw [List.getElem?_map, hp]; rfl
    · have := o4.look ks[j].1
      rw [e3] at this; exact this
end Go.Proofs.YtpfkmjckjomeeaaDoor
