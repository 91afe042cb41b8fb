/- What keep does to the archive's memory. -/
import Derived.Test.YtpfkmjckjomeeaaDoorArcSmall
namespace Go.Proofs.YtpfkmjckjomeeaaDoor
open Go.RowKit Arc
open Go.Maps (Keyed)
def AV.set (V : AV) (k : BitVec 32) (v : Value) : AV := { V with vf := fun k' => if k' = k then v else V.vf k', n := V.n + 1 }
theorem strs_snoc (l : List ByteArray) (s : ByteArray) : strs (l ++ [s]) = strs l ++ [.string s] := by simp [strs]
theorem AM.add {B A : Nat} {S : St} {V : AV} {w w1 w5 w6 : World} {v5 : Value} (h : AM B A S V w) (s : ByteArray) (hs : s ∉ S.p.f (key s)) (hb : Below w.heap.size w w1)
    (ho : w5.ownsRow B 9 1 v5 ((S.p.f (key s)).length + 1) (strs (S.p.f (key s)) ++ [.string s])) (hg : w1.grownBy w5 (V.vf (key s)).ownBlock) (hk : v5.ownBlock = (V.vf (key s)).ownBlock ∨ v5.ownBlock = some w1.heap.size)
    (hm : MapV w6 Tryd.prog 63 V.P (V.n + 1) (fun l => if l.sameKey (kU (key s)) then some v5 else FA S.p.L kU V.vf l)) (hg6 : w5.grownBy w6 (some V.P)) :
    AM B A ⟨S.p.add s, S.nm⟩ (V.set (key s) v5) w6 ∧ Fr (Fp A V) w w6 ∧ ∀ b, Fp A (V.set (key s) v5) b → Fp A V b ∨ w.heap.size ≤ b := by
  have hF : Fr (fun b => b = V.P ∨ (V.vf (key s)).ownBlock = some b) w w6 :=
    ((Fr.of_below (ok := fun b => b = V.P ∨ (V.vf (key s)).ownBlock = some b) hb).trans (Fr.of_grown (ok := fun b => b = V.P ∨ (V.vf (key s)).ownBlock = some b) hg fun b e => .inr e) fun _ _ e => e).trans (Fr.of_grown (ok := fun b => b = V.P ∨ (V.vf (key s)).ownBlock = some b) hg6 fun b e => .inl (Option.some.inj e).symm) fun _ _ e => e
  obtain ⟨lA, lP, lN, hPN⟩ := h.lo
  obtain ⟨hPA, hNA⟩ := h.ne_A
  have hnew : ∀ b, v5.ownBlock = some b → (V.vf (key s)).ownBlock = some b ∨ w.heap.size ≤ b := fun b e => by
    rcases hk with e2 | e2
    · exact .inl (e2 ▸ e)
    · right; rw [e2] at e; have := Option.some.inj e; have := hb.size; omega
  have hrow : ∀ b, (V.vf (key s)).ownBlock = some b → b ≠ A ∧ b ≠ V.P ∧ b ≠ V.N := fun b e => h.row_ne (h.of _) (by decide) e
  have hltA := h.ba.lt
  have hltP := h.mp.lt
  have hltN := h.mn.lt
  have vfk : (V.set (key s) v5).vf (key s) = v5 := by unfold AV.set; dsimp only; rw [if_pos rfl]
  have vfo : ∀ k, k ≠ key s → (V.set (key s) v5).vf k = V.vf k := fun k hk => by unfold AV.set; dsimp only; rw [if_neg hk]
  refine ⟨?_, hF.mono fun b _ e => ?_, fun b hb2 => ?_⟩
  · refine ⟨⟨lA, lP, lN, hPN⟩, ?_, ?_, ?_, fun k hk => ?_, fun k => ?_, ?_, fun k k' b hne e => ?_, fun k b e => ?_, fun x hx => ?_, fun k => ?_, Pcs.add_ok h.ok hs⟩
    · refine hF.Blk h.ba ?_
      rintro (e | e)
      · exact hPA e.symm
      · exact (hrow _ e).1 rfl
    · refine hm.ext fun l hl => ?_
      refine FA_ext (L' := (S.p.add s).L) (vf' := (V.set (key s) v5).vf) (F := fun l => if l.sameKey (kU (key s)) then some v5 else FA S.p.L kU V.vf l) kU_key kU_inj (fun a ha => ?_) (fun l hn => ?_) l
      · by_cases e : a = key s
        · subst e; rw [if_pos ((same_iff kU_key kU_inj _ _).2 rfl), vfk]
        · rw [if_neg fun e2 => e ((same_iff kU_key kU_inj _ _).1 e2), vfo a e]
          refine FA_get kU_key kU_inj ?_
          unfold Pcs.add at ha; dsimp only at ha
          split at ha
          · exact ha
          · rcases List.mem_append.1 ha with h1 | h1
            · exact h1
            · exact absurd (List.mem_singleton.1 h1) e
      · have hin : key s ∈ (S.p.add s).L := by unfold Pcs.add; dsimp only; split; assumption; simp
        rw [if_neg fun e2 => hn _ hin ((WideAt.sameKey_iff (kU_key _)).1 e2)]
        refine FA_other kU_key fun a ha => hn a ?_
        unfold Pcs.add; dsimp only; split
        · exact ha
        · exact List.mem_append_left _ ha
    · refine (hF.map h.mn ?_).mono (Nat.le_succ _)
      rintro (e | e)
      · exact hPN e.symm
      · exact (hrow _ e).2.2 rfl
    · have hne : k ≠ key s := by
        rintro rfl; apply hk; unfold Pcs.add; dsimp only; split; assumption; simp
      rw [vfo k hne]
      refine h.vn k fun hin => hk ?_
      unfold Pcs.add; dsimp only; split
      · exact hin
      · exact List.mem_append_left _ hin
    · by_cases e : k = key s
      · subst e
        rw [vfk]
        have e1 : (S.p.add s).f (key s) = S.p.f (key s) ++ [s] := by unfold Pcs.add; dsimp only; rw [if_pos rfl]
        dsimp only
        rw [e1, List.length_append, strs_snoc]
        refine (Fr.of_grown (ok := fun b => b = V.P) hg6 fun b e => (Option.some.inj e).symm).own ho fun b e => ?_
        rcases hnew b e with e2 | e2
        · exact (hrow b e2).2.1
        · intro e3; omega
      · rw [vfo k e]
        have e1 : (S.p.add s).f k = S.p.f k := by unfold Pcs.add; dsimp only; rw [if_neg e]
        dsimp only
        rw [e1]
        refine hF.own (h.of k) fun b hb => ?_
        rintro (e2 | e2)
        · exact (h.row_ne (h.of k) (by decide) hb).2.1 e2
        · exact h.sep k _ b e hb e2
    · refine hF.own h.oo fun b hb => ?_
      rintro (e2 | e2)
      · exact (h.row_ne h.oo (by decide) hb).2.1 e2
      · exact h.seo _ b e2 hb
    · have key2 : ∀ k, k ≠ key s → ∀ b, (V.vf k).ownBlock = some b → v5.ownBlock ≠ some b := fun k hk b e1 e2 => by
        rcases hnew b e2 with e3 | e3
        · exact h.sep k _ b hk e1 e3
        · have := (own_lt (h.of k) b e1).2; omega
      by_cases e1 : k = key s
      · subst e1
        rw [vfk] at e
        rw [vfo k' (Ne.symm hne)]
        exact fun e2 => key2 k' (Ne.symm hne) b e2 e
      · rw [vfo k e1] at e
        by_cases e2 : k' = key s
        · subst e2; rw [vfk]; exact key2 k e1 b e
        · rw [vfo k' e2]; exact h.sep k k' b hne e
    · show V.vo.ownBlock ≠ some b
      by_cases e1 : k = key s
      · subst e1
        rw [vfk] at e
        rcases hnew b e with e3 | e3
        · exact h.seo _ b e3
        · intro e4; have := (own_lt h.oo b e4).2; omega
      · rw [vfo k e1] at e; exact h.seo k b e
    · obtain ⟨vk, va, e, o1, o2⟩ := h.en x hx
      have hno : ∀ (b : Nat) cs t m, w.heap[b]? = some (.cells cs t m) → t ≠ 58 → t ≠ 9 → ¬ (b = V.P ∨ (V.vf (key s)).ownBlock = some b) := fun b cs t m hb h1 h2 e => h.not_fp hb h1 h2 (by
        rcases e with e | e
        · exact .inr (.inl e)
        · exact .inr (.inr (.inr (.inr ⟨_, e⟩))))
      refine ⟨vk, va, e, hF.own o1 fun b hb => ?_, hF.own o2 fun b hb => ?_⟩
      · obtain ⟨cs, hc⟩ := own_type o1 hb; exact hno b _ _ _ hc (by decide) (by decide)
      · obtain ⟨cs, hc⟩ := own_type o2 hb; exact hno b _ _ _ hc (by decide) (by decide)
    · have := h.cn k
      show (S.p.add s |>.f k).length ≤ V.n + 1
      unfold Pcs.add; dsimp only
      split
      · rw [List.length_append]; simp; omega
      · omega
  · rcases e with e | e
    · exact .inr (.inl e)
    · exact .inr (.inr (.inr (.inr ⟨_, e⟩)))
  · rcases hb2 with e | e | e | e | ⟨k, e⟩
    · exact .inl (.inl e)
    · exact .inl (.inr (.inl e))
    · exact .inl (.inr (.inr (.inl e)))
    · exact .inl (.inr (.inr (.inr (.inl e))))
    · by_cases e1 : k = key s
      · subst e1
        rw [vfk] at e
        rcases hnew b e with e3 | e3
        · exact .inl (.inr (.inr (.inr (.inr ⟨_, e3⟩))))
        · exact .inr e3
      · rw [vfo k e1] at e; exact .inl (.inr (.inr (.inr (.inr ⟨k, e⟩))))
end Go.Proofs.YtpfkmjckjomeeaaDoor
