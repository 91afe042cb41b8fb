/- Set and Drop in plain words, and their laws. -/
import Derived.Test.YthbdhijkdldmoaaGreatDoorObjEdL
import Derived.Test.YthbdhijkdldmoaaGreatDoorObjGet
namespace Go.Proofs.YthbdhijkdldmoaaGreatDoor
open Tk Ob
/-- A change at the place that a path names. -/
def editO (last : Ox → Int → Bool → Tk.Src → Except Int Ox) : List Tk.Src → Ox → Except Int Ox
  | [], _ => .error 8
  | s :: r, o =>
    if (stepO o s).2.2 ≠ 0 then .error (stepO o s).2.2
    else if r = [] then last o (stepO o s).1 (stepO o s).2.1 s
    else if (stepO o s).2.1 = false then .error 8
    else match editO last r (o.kids.getD (stepO o s).1.toNat Ox.zero) with
      | .error e => .error e
      | .ok k => .ok (o.withKids o.keys (o.kids.set (stepO o s).1.toNat k))
def setL (v : Ox) (o : Ox) (i : Int) (f : Bool) (s : Tk.Src) : Except Int Ox :=
  if f = true then .ok (o.withKids o.keys (o.kids.set i.toNat v))
  else if o.kind = 7 then .ok (o.withKids (o.keys.insertIdx i.toNat s) (o.kids.insertIdx i.toNat v))
  else if i ≠ o.kids.length then .error 8
  else .ok (o.withKids o.keys (o.kids.insertIdx i.toNat v))
def dropL (o : Ox) (i : Int) (f : Bool) (_ : Tk.Src) : Except Int Ox :=
  if f = false then .error 8 else .ok (o.withKids (if o.kind = 7 then o.keys.eraseIdx i.toNat else o.keys) (o.kids.eraseIdx i.toNat))
def setF (o : Ox) (path : List Tk.Src) (v : Ox) : Except Int Ox :=
  if checkO o ≠ 0 then .error (checkO o) else if checkO v ≠ 0 then .error (checkO v) else if path = [] then .ok v
  else match editO (setL v) path o with
    | .error e => .error e
    | .ok p => if checkO p ≠ 0 then .error (checkO p) else .ok p
def dropF (o : Ox) (path : List Tk.Src) : Except Int Ox :=
  if checkO o ≠ 0 then .error (checkO o) else if path = [] then .error 8 else editO dropL path o
theorem ltB_irr : ∀ s : Tk.Src, ltB s s = false
  | [] => rfl
  | a :: r => by
    simp only [ltB]
    rw [if_neg (UInt8.lt_irrefl a), if_neg (UInt8.lt_irrefl a)]
    exact ltB_irr r
theorem pos_ins : ∀ (ks : List Tk.Src) (s : Tk.Src), posK (ks.insertIdx (posK ks s).1 s) s = ((posK ks s).1, true)
  | [], s => by simp [posK, ltB_irr]
  | k :: r, s => by
    by_cases h : ltB k s = true
    · have e : posK (k :: r) s = (1 + (posK r s).1, (posK r s).2) := by simp only [posK]; rw [if_pos h]
      rw [e]
      simp only [Nat.add_comm 1, List.insertIdx_succ_cons, posK]
      rw [if_pos h, pos_ins r s]
    · have e : posK (k :: r) s = (0, decide (k = s)) := by simp only [posK]; rw [if_neg h]
      rw [e]
      simp [posK, ltB_irr]
theorem erase_ins {α : Type} : ∀ (l : List α) (i : Nat) (x : α), i ≤ l.length → (l.insertIdx i x).eraseIdx i = l
  | l, 0, x, _ => by simp
  | [], i + 1, x, h => by simp at h
  | a :: l, i + 1, x, h => by simp [erase_ins l i x (by simpa using h)]
theorem set_ins {α : Type} : ∀ (l : List α) (i : Nat) (x y : α), i ≤ l.length → (l.insertIdx i x).set i y = l.insertIdx i y
  | l, 0, x, y, _ => by simp
  | [], i + 1, x, y, h => by simp at h
  | a :: l, i + 1, x, y, h => by simp [set_ins l i x y (by simpa using h)]
theorem getD_ins {α : Type} (l : List α) (i : Nat) (x d : α) (h : i ≤ l.length) : (l.insertIdx i x).getD i d = x := by
  have hl : i < (l.insertIdx i x).length := by rw [ins_len l i x h]; omega
  rw [List.getD_eq_getElem?_getD, List.getElem?_eq_getElem hl, Option.getD_some, ins_get l i i x h hl]
  simp
theorem getD_set {α : Type} (l : List α) (i : Nat) (x d : α) (h : i < l.length) : (l.set i x).getD i d = x := by
  rw [List.getD_eq_getElem?_getD, List.getElem?_set_self h, Option.getD_some]
theorem step_with {o : Ox} {os : List Ox} (s : Tk.Src) (h : os.length = o.kids.length) : stepO (o.withKids o.keys os) s = stepO o s := by
  have e1 : (o.withKids o.keys os).kind = o.kind := rfl
  have e2 : (o.withKids o.keys os).keys = o.keys := rfl
  have e3 : (o.withKids o.keys os).kids.length = o.kids.length := h
  unfold stepO
  simp only [e1, e2, e3]
theorem step_dict {o : Ox} (h7 : o.kind = 7) (s : Tk.Src) : stepO o s = (((posK o.keys s).1 : Int), (posK o.keys s).2, 0) := by
  unfold stepO; rw [if_pos h7]
/-- A step that does not fail, at a place that is not there. -/
theorem step_none {o : Ox} {s : Tk.Src} (h0 : (stepO o s).2.2 = 0) (hf : (stepO o s).2.1 = false) :
    (o.kind = 7 ∧ stepO o s = (((posK o.keys s).1 : Int), false, 0)) ∨ (o.kind ≠ 7 ∧ stepO o s = (idxN s, false, 0) ∧ (o.kids.length : Int) ≤ idxN s ∧ ∀ o' : Ox, o'.kind = o.kind → stepO o' s = (idxN s, decide (idxN s < (o'.kids.length : Int)), 0)) := by
  unfold stepO at h0 hf
  by_cases h7 : o.kind = 7
  · left
    rw [if_pos h7] at hf
    refine ⟨h7, ?_⟩
    unfold stepO
    rw [if_pos h7]
    dsimp only at hf
    rw [hf]
  · right
    refine ⟨h7, ?_⟩
    rw [if_neg h7] at h0 hf
    split at h0
    · rename_i h6
      rw [if_pos h6] at hf
      split at h0
      · cases h0
      · rename_i hb
        rw [if_neg hb] at hf
        have hle : (o.kids.length : Int) ≤ idxN s := by have := of_decide_eq_false hf; omega
        refine ⟨?_, hle, fun o' h' => ?_⟩
        · unfold stepO
          rw [if_neg h7, if_pos h6, if_neg hb]
          dsimp only at hf
          rw [hf]
        · unfold stepO
          rw [if_neg (by rw [h']; exact h7), if_pos (by rw [h']; exact h6), if_neg hb]
    · cases h0
/-- What Set put, Get finds; and a second Set does what it does on the first object. -/
theorem set_get (v : Ox) : ∀ (path : List Tk.Src) (o p : Ox), path ≠ [] → Ad o → editO (setL v) path o = .ok p → getO p path = .ok v ∧ ∀ w, editO (setL w) path p = editO (setL w) path o
  | [], _, _, h, _, _ => absurd rfl h
  | s :: r, o, p, _, had, h => by
    simp only [editO] at h
    split at h
    · cases h
    rename_i h0
    have h0 : (stepO o s).2.2 = 0 := by simpa using h0
    split at h
    · rename_i hr
      subst hr
      cases hf : (stepO o s).2.1 with
      | true =>
        obtain ⟨i, hi, hl⟩ := step_found had hf
        rw [hf, hi] at h
        simp only [setL, if_true, Int.toNat_natCast] at h
        injection h with h
        subst h
        have e : ∀ x, stepO (o.withKids o.keys (o.kids.set i x)) s = stepO o s := fun x => step_with s (by simp)
        constructor
        · simp only [getO, e, h0, hf, hi]
          simp only [with_kids, Int.toNat_natCast, getD_set _ _ _ _ hl, ne_eq, not_true, if_false, Bool.true_eq_false]
        · intro w
          simp only [editO, e, h0, hf, hi]
          simp [setL, with_keys, with_kids, with_with]
      | false =>
        rcases step_none h0 hf with ⟨h7, e⟩ | ⟨h7, e, hle, he⟩
        · have hpl : (posK o.keys s).1 ≤ o.kids.length := by rw [← had.lens h7]; exact pos_le _ _
          rw [e] at h
          simp only [setL, h7, if_true, Int.toNat_natCast, Bool.false_eq_true, if_false] at h
          injection h with h
          subst h
          have e2 : stepO (o.withKids (o.keys.insertIdx (posK o.keys s).1 s) (o.kids.insertIdx (posK o.keys s).1 v)) s = (((posK o.keys s).1 : Int), true, 0) := by
            rw [step_dict (show (o.withKids _ _).kind = 7 from h7), with_keys, pos_ins]
          constructor
          · simp only [getO, e2]
            simp only [with_kids, Int.toNat_natCast, getD_ins _ _ _ _ hpl, ne_eq, not_true, if_false, Bool.true_eq_false]
          · intro w
            simp only [editO, e2, e]
            simp [setL, with_keys, with_kids, with_with, set_ins _ _ _ _ hpl, h7]
        · rw [e] at h
          simp only [setL, h7, Bool.false_eq_true, if_false] at h
          split at h
          · cases h
          · rename_i hlen
            have hlen : idxN s = (o.kids.length : Int) := by simpa using hlen
            injection h with h
            subst h
            have e2 : stepO (o.withKids o.keys (o.kids.insertIdx (idxN s).toNat v)) s = (idxN s, true, 0) := by
              rw [he (o.withKids _ _) rfl, with_kids]
              rw [hlen, Int.toNat_natCast, ins_len _ _ _ (Nat.le_refl _)]
              simp
              omega
            constructor
            · simp only [getO, e2]
              rw [hlen]
              simp only [with_kids, Int.toNat_natCast, getD_ins _ _ _ _ (Nat.le_refl _), ne_eq, not_true, if_false, Bool.true_eq_false]
            · intro w
              simp only [editO, e2, e]
              rw [hlen]
              simp [setL, with_keys, with_kids, with_with, h7]
    · rename_i hr
      split at h
      · cases h
      · rename_i hf
        have hf : (stepO o s).2.1 = true := by simpa using hf
        obtain ⟨i, hi, hl⟩ := step_found had hf
        rw [hi, Int.toNat_natCast] at h
        split at h
        · cases h
        · rename_i k hk
          injection h with h
          subst h
          have hadk : Ad (o.kids.getD i Ox.zero) := by
            rw [List.getD_eq_getElem?_getD, List.getElem?_eq_getElem hl]
            exact had.kid _ (List.getElem_mem hl)
          obtain ⟨g1, g2⟩ := set_get v r _ _ hr hadk hk
          have e : stepO (o.withKids o.keys (o.kids.set i k)) s = stepO o s := step_with s (by simp)
          constructor
          · simp only [getO, e, h0, hf, hi]
            simp only [with_kids, Int.toNat_natCast, getD_set _ _ _ _ hl, ne_eq, not_true, if_false, Bool.true_eq_false]
            exact g1
          · intro w
            simp only [editO, e, h0, hf, hi, Int.toNat_natCast]
            simp only [with_keys, with_kids, with_with, getD_set _ _ _ _ hl, g2 w]
            simp only [ne_eq, not_true, if_false, hr, Bool.true_eq_false, List.set_set]
/-- Dropping what was added gives the object back. -/
theorem drop_set (v : Ox) : ∀ (path : List Tk.Src) (o p : Ox), Ad o → getO o path = .error 8 → editO (setL v) path o = .ok p → editO dropL path p = .ok o ∧ editO dropL path o = .error 8
  | [], _, _, _, h, _ => by cases h
  | s :: r, o, p, had, hg, h => by
    simp only [editO] at h
    split at h
    · cases h
    rename_i h0
    have h0 : (stepO o s).2.2 = 0 := by simpa using h0
    simp only [getO, h0] at hg
    split at h
    · rename_i hr
      subst hr
      cases hf : (stepO o s).2.1 with
      | true => rw [hf] at hg; simp [getO] at hg
      | false =>
        rcases step_none h0 hf with ⟨h7, e⟩ | ⟨h7, e, hle, he⟩
        · have hpl : (posK o.keys s).1 ≤ o.kids.length := by rw [← had.lens h7]; exact pos_le _ _
          rw [e] at h
          simp only [setL, h7, if_true, Int.toNat_natCast, Bool.false_eq_true, if_false] at h
          injection h with h
          subst h
          have e2 : stepO (o.withKids (o.keys.insertIdx (posK o.keys s).1 s) (o.kids.insertIdx (posK o.keys s).1 v)) s = (((posK o.keys s).1 : Int), true, 0) := by
            rw [step_dict (show (o.withKids _ _).kind = 7 from h7), with_keys, pos_ins]
          constructor
          · simp only [editO, e2]
            rw [if_neg (by simp), if_pos trivial]
            simp only [dropL, Bool.true_eq_false, if_false, Int.toNat_natCast, with_keys, with_kids, with_with]
            rw [if_pos (show (o.withKids _ _).kind = 7 from h7), erase_ins _ _ _ hpl, erase_ins _ _ _ (pos_le _ _)]
            exact congrArg Except.ok (with_self o)
          · simp only [editO, e]
            simp [dropL]
        · rw [e] at h
          simp only [setL, h7, Bool.false_eq_true, if_false] at h
          split at h
          · cases h
          · rename_i hlen
            have hlen : idxN s = (o.kids.length : Int) := by simpa using hlen
            injection h with h
            subst h
            have e2 : stepO (o.withKids o.keys (o.kids.insertIdx (idxN s).toNat v)) s = (idxN s, true, 0) := by
              rw [he (o.withKids _ _) rfl, with_kids]
              rw [hlen, Int.toNat_natCast, ins_len _ _ _ (Nat.le_refl _)]
              simp
              omega
            constructor
            · simp only [editO, e2]
              rw [if_neg (by simp), if_pos trivial, hlen]
              simp only [dropL, Bool.true_eq_false, if_false, Int.toNat_natCast, with_keys, with_kids, with_with]
              rw [if_neg (show ¬ (o.withKids _ _).kind = 7 from h7), erase_ins _ _ _ (Nat.le_refl _)]
              exact congrArg Except.ok (with_self o)
            · simp only [editO, e]
              simp [dropL]
    · rename_i hr
      split at h
      · cases h
      · rename_i hf
        have hf : (stepO o s).2.1 = true := by simpa using hf
        obtain ⟨i, hi, hl⟩ := step_found had hf
        rw [hi, Int.toNat_natCast] at h
        split at h
        · cases h
        · rename_i k hk
          injection h with h
          subst h
          have hg2 : getO (o.kids.getD i Ox.zero) r = .error 8 := by
            rw [hf, hi] at hg
            simpa using hg
          have hadk : Ad (o.kids.getD i Ox.zero) := by
            rw [List.getD_eq_getElem?_getD, List.getElem?_eq_getElem hl]
            exact had.kid _ (List.getElem_mem hl)
          obtain ⟨g1, g2⟩ := drop_set v r _ _ hadk hg2 hk
          have e : stepO (o.withKids o.keys (o.kids.set i k)) s = stepO o s := step_with s (by simp)
          constructor
          · simp only [editO, e, h0, hf, hi, Int.toNat_natCast]
            simp only [with_keys, with_kids, with_with, getD_set _ _ _ _ hl, g1]
            simp only [ne_eq, not_true, if_false, hr, Bool.true_eq_false, List.set_set]
            rw [List.getD_eq_getElem?_getD, List.getElem?_eq_getElem hl, Option.getD_some, List.set_getElem_self]
            exact congrArg Except.ok (with_self o)
          · simp only [editO, h0, hf, hi, Int.toNat_natCast, g2]
            simp only [ne_eq, not_true, if_false, hr, Bool.true_eq_false]
end Go.Proofs.YthbdhijkdldmoaaGreatDoor
