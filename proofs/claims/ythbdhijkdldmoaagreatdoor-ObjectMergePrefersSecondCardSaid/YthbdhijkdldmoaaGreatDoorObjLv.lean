/- Set leaves the other entries of a dictionary, in plain words. -/
import Derived.Test.YthbdhijkdldmoaaGreatDoorObjEd
namespace Go.Proofs.YthbdhijkdldmoaaGreatDoor
open Tk Ob
theorem pos_at : ∀ (ks : List Tk.Src) (j : Nat) (h : j < ks.length), Sorted ks → posK ks ks[j] = (j, true)
  | [], j, h, _ => absurd h (by simp)
  | k :: r, 0, _, _ => by simp [posK, ltB_irr]
  | k :: r, j + 1, h, hs => by
    have hs' := List.pairwise_cons.1 hs
    have hj : j < r.length := by simpa using h
    have hl : ltB k r[j] = true := hs'.1 _ (List.getElem_mem hj)
    simp only [List.getElem_cons_succ, posK]
    rw [if_pos hl, pos_at r j hj hs'.2]
    simp [Nat.add_comm]
theorem pos_mem {ks : List Tk.Src} {k : Tk.Src} (hs : Sorted ks) (h : k ∈ ks) : ∃ j, ∃ hj : j < ks.length, ks[j] = k ∧ posK ks k = (j, true) := by
  obtain ⟨j, hj, rfl⟩ := List.getElem_of_mem h
  exact ⟨j, hj, rfl, pos_at ks j hj hs⟩
theorem pos_true {ks : List Tk.Src} {k : Tk.Src} (h : (posK ks k).2 = true) : k ∈ ks := by
  obtain ⟨hl, e⟩ := (pos_found ks k).1 h
  exact e ▸ List.getElem_mem hl
/-- What a dictionary says of a key. -/
def lookK (ks : List Tk.Src) (os : List Ox) (k : Tk.Src) : Option Ox := if (posK ks k).2 = true then some (os.getD (posK ks k).1 Ox.zero) else none
def look (o : Ox) (k : Tk.Src) : Option Ox := lookK o.keys o.kids k
theorem look_with (o : Ox) (ks : List Tk.Src) (os : List Ox) (k : Tk.Src) : look (o.withKids ks os) k = lookK ks os k := rfl
theorem get_dict {o : Ox} (h7 : o.kind = 7) (k : Tk.Src) : getO o [k] = match look o k with | none => .error 8 | some x => .ok x := by
  have e := step_dict h7 k
  simp only [getO, e, look, lookK]
  cases (posK o.keys k).2 <;> simp
/-- An entry put into a dictionary. -/
def putD (o : Ox) (k : Tk.Src) (v : Ox) : Ox :=
  if (posK o.keys k).2 = true then o.withKids o.keys (o.kids.set (posK o.keys k).1 v) else o.withKids (o.keys.insertIdx (posK o.keys k).1 k) (o.kids.insertIdx (posK o.keys k).1 v)
theorem edit_dict {o : Ox} (h7 : o.kind = 7) (k : Tk.Src) (v : Ox) : editO (setL v) [k] o = .ok (putD o k v) := by
  have e := step_dict h7 k
  simp only [editO, e, setL, putD, h7]
  cases (posK o.keys k).2 <;> simp
theorem put_kind (o : Ox) (k : Tk.Src) (v : Ox) : (putD o k v).kind = o.kind := by unfold putD; split <;> rfl
theorem put_sorted {o : Ox} (k : Tk.Src) (v : Ox) (hs : Sorted o.keys) : Sorted (putD o k v).keys := by
  unfold putD
  split
  · exact hs
  · rename_i h
    exact sorted_ins _ _ hs (by simpa using h)
theorem put_len {o : Ox} (k : Tk.Src) (v : Ox) (hl : o.keys.length = o.kids.length) : (putD o k v).keys.length = (putD o k v).kids.length := by
  unfold putD
  split
  · simp [with_keys, with_kids]; exact hl
  · have := pos_le o.keys k
    simp only [with_keys, with_kids]
    rw [ins_len _ _ _ this, ins_len _ _ _ (by omega), hl]
theorem put_keys {o : Ox} (k : Tk.Src) (v : Ox) : ∀ x, x ∈ (putD o k v).keys ↔ x = k ∨ x ∈ o.keys := by
  intro x
  unfold putD
  split
  · rename_i h
    simp only [with_keys]
    exact ⟨.inr, fun h' => h'.elim (fun e => e ▸ pos_true h) id⟩
  · simp only [with_keys]
    rw [List.mem_insertIdx (pos_le _ _)]
theorem look_put {o : Ox} {k : Tk.Src} {v : Ox} (hs : Sorted o.keys) (hl : o.keys.length = o.kids.length) (x : Tk.Src) : look (putD o k v) x = if x = k then some v else look o x := by
  by_cases hf : (posK o.keys k).2 = true
  · have e : putD o k v = o.withKids o.keys (o.kids.set (posK o.keys k).1 v) := by unfold putD; rw [if_pos hf]
    obtain ⟨hj, ej⟩ := (pos_found o.keys k).1 hf
    rw [e, look_with]
    unfold look lookK
    by_cases hx : x = k
    · subst hx
      rw [if_pos rfl, if_pos hf, getD_set _ _ _ _ (by omega)]
    · rw [if_neg hx]
      by_cases hxf : (posK o.keys x).2 = true
      · rw [if_pos hxf, if_pos hxf]
        obtain ⟨hj2, ej2⟩ := (pos_found o.keys x).1 hxf
        have hne : (posK o.keys k).1 ≠ (posK o.keys x).1 := fun h => hx (by
          have h1 : o.keys[(posK o.keys x).1]? = some x := by rw [List.getElem?_eq_getElem hj2, ej2]
          have h2 : o.keys[(posK o.keys k).1]? = some k := by rw [List.getElem?_eq_getElem hj, ej]
          rw [h, h1] at h2
          exact Option.some.inj h2)
        rw [List.getD_eq_getElem?_getD, List.getD_eq_getElem?_getD, List.getElem?_set_ne hne]
      · rw [if_neg hxf, if_neg hxf]
  · have hf : (posK o.keys k).2 = false := by simpa using hf
    have e : putD o k v = o.withKids (o.keys.insertIdx (posK o.keys k).1 k) (o.kids.insertIdx (posK o.keys k).1 v) := by unfold putD; rw [if_neg (by simp [hf])]
    have hpl := pos_le o.keys k
    have hs2 := sorted_ins o.keys k hs hf
    rw [e, look_with]
    unfold look lookK
    by_cases hx : x = k
    · subst hx
      rw [if_pos rfl, pos_ins, if_pos rfl, getD_ins _ _ _ _ (by omega)]
    · rw [if_neg hx]
      by_cases hxf : (posK o.keys x).2 = true
      · rw [if_pos hxf]
        obtain ⟨hj, ej⟩ := (pos_found o.keys x).1 hxf
        generalize hP : (posK o.keys k).1 = P at *
        generalize (posK o.keys x).1 = j at *
        have hlen : (o.keys.insertIdx P k).length = o.keys.length + 1 := ins_len _ _ _ hpl
        have hlen2 : (o.kids.insertIdx P v).length = o.kids.length + 1 := ins_len _ _ _ (by omega)
        by_cases hjp : j < P
        · have h1 : j < (o.keys.insertIdx P k).length := by omega
          have g : (o.keys.insertIdx P k)[j] = x := by rw [ins_get _ _ _ _ hpl h1, dif_pos hjp]; exact ej
          have hp := pos_at _ j h1 hs2
          rw [g] at hp
          rw [hp, if_pos rfl]
          have h2 : j < (o.kids.insertIdx P v).length := by omega
          rw [List.getD_eq_getElem?_getD, List.getElem?_eq_getElem h2, ins_get _ _ _ _ (by omega) h2, dif_pos hjp, List.getD_eq_getElem?_getD, List.getElem?_eq_getElem (by omega)]
        · have h1 : j + 1 < (o.keys.insertIdx P k).length := by omega
          have g : (o.keys.insertIdx P k)[j + 1] = x := by
            rw [ins_get _ _ _ _ hpl h1, dif_neg (by omega), dif_neg (by omega)]
            exact ej
          have hp := pos_at _ (j + 1) h1 hs2
          rw [g] at hp
          rw [hp, if_pos rfl]
          have h2 : j + 1 < (o.kids.insertIdx P v).length := by omega
          rw [List.getD_eq_getElem?_getD, List.getElem?_eq_getElem h2, ins_get _ _ _ _ (by omega) h2, dif_neg (by omega), dif_neg (by omega), List.getD_eq_getElem?_getD, List.getElem?_eq_getElem (by omega)]
          rfl
      · rw [if_neg hxf]
        have hnot : x ∉ o.keys.insertIdx (posK o.keys k).1 k := fun h => by
          rw [List.mem_insertIdx hpl] at h
          rcases h with h | h
          · exact hx h
          · obtain ⟨j, hj, _, e⟩ := pos_mem hs h
            rw [e] at hxf
            exact hxf rfl
        rw [if_neg fun h => hnot (pos_true h)]
/-- How many keys a dictionary has behind Set. -/
theorem put_count {o : Ox} (k : Tk.Src) (v : Ox) (hs : Sorted o.keys) : (putD o k v).keys.length + (if k ∈ o.keys then 1 else 0) = o.keys.length + 1 := by
  unfold putD
  by_cases hf : (posK o.keys k).2 = true
  · rw [if_pos hf, if_pos (pos_true hf)]
    rfl
  · rw [if_neg hf, if_neg (fun h => by obtain ⟨j, hj, _, e⟩ := pos_mem hs h; rw [e] at hf; exact hf rfl)]
    simp only [with_keys]
    exact ins_len _ _ _ (pos_le _ _)
end Go.Proofs.YthbdhijkdldmoaaGreatDoor
