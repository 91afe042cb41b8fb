/- What filled tells agrees with the archive; a name dropped; a row's element set. -/
import Derived.Test.YtpfkmjckjomeeaaDoorArcSrtW
namespace Go.Proofs.YtpfkmjckjomeeaaDoor
open Go.RowKit Arc
namespace Arc
/-- What is told of the numbers below the list's length agrees with data. -/
def Agree (d : List (ByteArray × ByteArray)) (os : List ByteArray) : Prop :=
  ∀ i : Nat, i < os.length → (∃ k : Nat, d[k]? = some (nm i, os.getD i ByteArray.empty)) ∧ (os.getD i ByteArray.empty).size ≤ 16384 ∨ (nm i ∉ d.map Prod.fst ∧ os.getD i ByteArray.empty = ByteArray.empty)
theorem nm_inj {i j : Nat} (hi : i < 12) (hj : j < 12) (h : nm i = nm j) : i = j := by
  have := (by decide : ∀ i j : Fin 12, nm i.val = nm j.val → i = j) ⟨i, hi⟩ ⟨j, hj⟩ h
  simpa using this
theorem mem_keptOf {ds : List ByteArray} {n i : Nat} (hi : i < n) (h : (ds.getD i ByteArray.empty).size ≤ 16384) : (nm i, ds.getD i ByteArray.empty) ∈ kept ds n := by
  unfold kept
  exact List.mem_filterMap.2 ⟨i, List.mem_range.2 hi, by rw [if_pos h]⟩
theorem outs_get {ds : List ByteArray} {n i : Nat} (hi : i < n) : (outs ds n).getD i ByteArray.empty = if (ds.getD i ByteArray.empty).size ≤ 16384 then ds.getD i ByteArray.empty else ByteArray.empty := by
  unfold outs
  rw [List.getD_eq_getElem?_getD, List.getElem?_map, List.getElem?_range hi]; rfl
theorem agree_kept (ds : List ByteArray) (n : Nat) (hn : n ≤ 12) : Agree (kept ds n) (outs ds n) := fun i hi => by
  rw [outs_length] at hi
  rw [outs_get hi]
  by_cases h : (ds.getD i ByteArray.empty).size ≤ 16384
  · left
    rw [if_pos h]
    exact ⟨List.getElem?_of_mem (mem_keptOf hi h), h⟩
  · right
    rw [if_neg h]
    refine ⟨fun hm => ?_, rfl⟩
    obtain ⟨x, hx, e⟩ := List.mem_map.1 hm
    obtain ⟨j, hj, e2, e3, e4⟩ := mem_kept hx
    have hij := nm_inj (by omega) (by omega) (e.symm.trans e2)
    subst hij
    rw [e3] at e4; exact h e4
theorem set_getD (os : List ByteArray) (k i : Nat) (x : ByteArray) (hk : k < os.length) : (os.set k x).getD i ByteArray.empty = if i = k then x else os.getD i ByteArray.empty := by
  rw [List.getD_eq_getElem?_getD, List.getElem?_set]
  by_cases h : k = i
  · subst h; rw [if_pos rfl, if_pos rfl, if_pos hk]; rfl
  · rw [if_neg h, if_neg fun e => h e.symm, List.getD_eq_getElem?_getD]
theorem agree_none {d : List (ByteArray × ByteArray)} {os : List ByteArray} (h : Agree d os) {k : Nat} (hk : k < os.length) (hno : nm k ∉ d.map Prod.fst) : Agree d (os.set k ByteArray.empty) := fun i hi => by
  rw [List.length_set] at hi
  rw [set_getD _ _ _ _ hk]
  by_cases hik : i = k
  · subst hik; rw [if_pos rfl]; exact .inr ⟨hno, rfl⟩
  · rw [if_neg hik]; exact h i hi
theorem agree_drop {d : List (ByteArray × ByteArray)} {os : List ByteArray} (h : Agree d os) (hnd : (d.map Prod.fst).Nodup) (hl : os.length ≤ 12) {k p : Nat} (hk : k < os.length) (hp : p < d.length) (hpk : d[p].1 = nm k) : Agree (d.eraseIdx p) (os.set k ByteArray.empty) := fun i hi => by
  rw [List.length_set] at hi
  rw [set_getD _ _ _ _ hk, map_eraseIdx]
  have hp2 : p < (d.map Prod.fst).length := by simpa using hp
  have hpg : (d.map Prod.fst)[p] = nm k := by simpa using hpk
  by_cases hik : i = k
  · subst hik; rw [if_pos rfl]
    refine .inr ⟨fun hm => ?_, rfl⟩
    have := (mem_eraseIdx_nodup hnd hp2 _).1 hm
    exact this.2 hpg.symm
  · rw [if_neg hik]
    rcases h i hi with ⟨⟨q, hq⟩, h2⟩ | ⟨h1, h2⟩
    · left
      refine ⟨List.getElem?_of_mem ?_, h2⟩
      have hnd2 : d.Nodup := (List.pairwise_map.1 hnd).imp fun h e => h (by rw [e])
      refine (mem_eraseIdx_nodup hnd2 hp _).2 ⟨List.mem_of_getElem? hq, fun e => hik (nm_inj (by omega) (by omega) ?_)⟩
      rw [← hpk, ← e]
    · right
      exact ⟨fun hm => h1 (List.mem_of_mem_eraseIdx hm), h2⟩
end Arc
theorem own_put {w : World} {base g n cap k : Nat} {t : TypeId} {xs : List Value} (h : w.ownsRow base t 1 (.slice (some ⟨g, 0, none⟩) n cap) n xs) (u : Value) : (w.setCell ⟨g, k, none⟩ u).ownsRow base t 1 (.slice (some ⟨g, 0, none⟩) n cap) n (xs.set k u) := by
  obtain ⟨hl, h⟩ := h
  refine ⟨by simpa using hl, ?_⟩
  rcases h with ⟨e, _⟩ | ⟨g', cap', cur, e, hg, hh, hn, hc, hs, hx⟩
  · cases e
  · injection e with e1 _ e3
    injection e1 with e1
    injection e1 with e1
    subst e1; subst e3
    refine .inr ⟨g, cap, cur.setIfInBounds k u, rfl, hg, ?_, hn, hc, by simpa using hs, ?_⟩
    · simp [World.setCell, Array.getElem?_modify, hh]
    · rw [Array.toList_setIfInBounds, List.take_set, hx]
theorem strs_set (l : List ByteArray) (k : Nat) (s : ByteArray) : strs (l.set k s) = (strs l).set k (.string s) := by simp [strs]
end Go.Proofs.YtpfkmjckjomeeaaDoor
