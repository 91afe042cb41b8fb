/- The walk of node (printed by gen_node.py). -/
import Derived.Test.YthbdhijkdldmoaaGreatDoorTokSmall
import Derived.Test.YthbdhijkdldmoaaGreatDoorTokPri
import Derived.Test.YthbdhijkdldmoaaGreatDoorObjBs
namespace Go.Proofs.YthbdhijkdldmoaaGreatDoor
open Go.RowKit Tk Ob
def NodePost (E : Int) (w : World) (e : Ending) (w' : World) : Prop := e = .returned (.int .i64 E) ∧ Below w.heap.size w w'
theorem node_close {E n : Int} {w w' : World} (h : E = n) (hb : Below w.heap.size w w') : NodePost E w (.returned (.int .i64 n)) w' := ⟨by rw [h], hb⟩
theorem node_out {o : Ox} {d : Nat} (h : o.kind < 0 ∨ 7 < o.kind) : nodeE o d = 14 := by unfold nodeE; dsimp only; rw [if_pos h]
theorem node_deep {o : Ox} {d : Nat} (h : ¬ (o.kind < 0 ∨ 7 < o.kind)) (hd : 12 < d) : nodeE o d = 15 := by unfold nodeE; dsimp only; rw [if_neg h, if_pos hd]
theorem node_form {o : Ox} {d : Nat} (h : ¬ (o.kind < 0 ∨ 7 < o.kind)) (hd : ¬ 12 < d) (hb : (o.int ≠ 0 ∧ ¬ (o.kind = 1 ∨ o.kind = 2 ∨ o.kind = 5)) ∨ (o.text ≠ [] ∧ ¬ (o.kind = 3 ∨ o.kind = 4)) ∨ (0 < o.kids.length ∧ ¬ (o.kind = 6 ∨ o.kind = 7))) : nodeE o d = 4 := by
  unfold nodeE; dsimp only; rw [if_neg h, if_neg hd, if_pos hb]
theorem node_keys {o : Ox} {d : Nat} (h : ¬ (o.kind < 0 ∨ 7 < o.kind)) (hd : ¬ 12 < d) (hb : ¬ ((o.int ≠ 0 ∧ ¬ (o.kind = 1 ∨ o.kind = 2 ∨ o.kind = 5)) ∨ (o.text ≠ [] ∧ ¬ (o.kind = 3 ∨ o.kind = 4)) ∨ (0 < o.kids.length ∧ ¬ (o.kind = 6 ∨ o.kind = 7)))) (hk : (o.kind = 7 ∧ o.keys.length ≠ o.kids.length) ∨ (o.kind ≠ 7 ∧ 0 < o.keys.length)) : nodeE o d = 4 := by
  unfold nodeE; dsimp only; rw [if_neg h, if_neg hd, if_neg hb, if_pos hk]
theorem node_bool {o : Ox} {d : Nat} (h : ¬ (o.kind < 0 ∨ 7 < o.kind)) (hd : ¬ 12 < d) (hb : ¬ ((o.int ≠ 0 ∧ ¬ (o.kind = 1 ∨ o.kind = 2 ∨ o.kind = 5)) ∨ (o.text ≠ [] ∧ ¬ (o.kind = 3 ∨ o.kind = 4)) ∨ (0 < o.kids.length ∧ ¬ (o.kind = 6 ∨ o.kind = 7)))) (hk : ¬ ((o.kind = 7 ∧ o.keys.length ≠ o.kids.length) ∨ (o.kind ≠ 7 ∧ 0 < o.keys.length))) (hi : o.kind = 1 ∧ o.int ≠ 0 ∧ o.int ≠ 1) : nodeE o d = 3 := by
  unfold nodeE; dsimp only; rw [if_neg h, if_neg hd, if_neg hb, if_neg hk, if_pos hi]
theorem node_large {o : Ox} {d : Nat} (h : ¬ (o.kind < 0 ∨ 7 < o.kind)) (hd : ¬ 12 < d) (hb : ¬ ((o.int ≠ 0 ∧ ¬ (o.kind = 1 ∨ o.kind = 2 ∨ o.kind = 5)) ∨ (o.text ≠ [] ∧ ¬ (o.kind = 3 ∨ o.kind = 4)) ∨ (0 < o.kids.length ∧ ¬ (o.kind = 6 ∨ o.kind = 7)))) (hk : ¬ ((o.kind = 7 ∧ o.keys.length ≠ o.kids.length) ∨ (o.kind ≠ 7 ∧ 0 < o.keys.length))) (hi : ¬ (o.kind = 1 ∧ o.int ≠ 0 ∧ o.int ≠ 1)) (hl : 256 < o.kids.length) : nodeE o d = 2 := by
  unfold nodeE; dsimp only; rw [if_neg h, if_neg hd, if_neg hb, if_neg hk, if_neg hi, if_pos hl]
theorem node_rest {o : Ox} {d : Nat} (h : ¬ (o.kind < 0 ∨ 7 < o.kind)) (hd : ¬ 12 < d) (hb : ¬ ((o.int ≠ 0 ∧ ¬ (o.kind = 1 ∨ o.kind = 2 ∨ o.kind = 5)) ∨ (o.text ≠ [] ∧ ¬ (o.kind = 3 ∨ o.kind = 4)) ∨ (0 < o.kids.length ∧ ¬ (o.kind = 6 ∨ o.kind = 7)))) (hk : ¬ ((o.kind = 7 ∧ o.keys.length ≠ o.kids.length) ∨ (o.kind ≠ 7 ∧ 0 < o.keys.length))) (hi : ¬ (o.kind = 1 ∧ o.int ≠ 0 ∧ o.int ≠ 1)) (hl : ¬ 256 < o.kids.length) : nodeE o d = keysE none o.keys := by
  unfold nodeE; dsimp only; rw [if_neg h, if_neg hd, if_neg hb, if_neg hk, if_neg hi, if_neg hl]
theorem keys_none (k : Tk.Src) (r : List Tk.Src) : keysE none (k :: r) = if nameE k ≠ 0 then nameE k else keysE (some k) r := by simp [keysE]
theorem keys_some (q k : Tk.Src) (r : List Tk.Src) : keysE (some q) (k :: r) = if nameE k ≠ 0 then nameE k else if ltB q k = false then 4 else keysE (some k) r := by
  simp only [keysE]
  by_cases h : ltB q k = false
  · rw [if_pos h]; simp [h]
  · rw [if_neg h]; simp [h]
theorem text_ne {t : Tk.Src} {S : ByteArray} (hS : S = ⟨t.toArray⟩) : S.toList = t := by rw [Lib.toList_data, hS]
theorem b5n_cells {w : World} {g : Nat} {a b c d e : Value} (h : Blk w g 25 #[a, b, c, d, e]) : w.cell? ⟨g, 0, none⟩ = some a ∧ w.cell? ⟨g, 1, none⟩ = some b ∧ w.cell? ⟨g, 2, none⟩ = some c ∧ w.cell? ⟨g, 3, none⟩ = some d ∧ w.cell? ⟨g, 4, none⟩ = some e := by
  refine ⟨?_, ?_, ?_, ?_, ?_⟩
  · simpa using Blk.cell h 0
  · simpa using Blk.cell h 1
  · simpa using Blk.cell h 2
  · simpa using Blk.cell h 3
  · simpa using Blk.cell h 4
set_option maxRecDepth 100000 in
set_option maxHeartbeats 16000000 in
theorem node_k0 (i : Int) (t : Tk.Src) (keys : List Tk.Src) (kids : List Ox) (A B : Option Addr) (kc c : Nat) (d : Nat) (w : World) :
    Calls Tryz.prog 38 #[.agg #[.int .i64 0, .int .i64 i, .string ⟨t.toArray⟩, .slice A keys.length kc, .slice B kids.length c], .int .i64 d] w (NodePost (nodeE (.mk 0 i t keys kids) d) w) := by
  have hr : ¬ ((Ox.mk 0 i t keys kids).kind < 0 ∨ 7 < (Ox.mk 0 i t keys kids).kind) := by show ¬ ((0 : Int) < 0 ∨ 7 < (0 : Int)); omega
  obtain ⟨S, hS⟩ : ∃ S : ByteArray, S = ⟨t.toArray⟩ := ⟨_, rfl⟩
  have hSt := text_ne hS
  rw [← hS]
  clear hS
  by_cases hd : 12 < d
  · have HE := Lib.hid (node_deep (d := d) hr hd)
    have g12 : (12 : Int) < (d : Int) := by omega
    clear hSt hr hd
    generalize nodeE _ d = E at *
    go_enter Tryz.func38, Tryz.ntmps38
    go_wp2_with fail
    go_ret
    exact node_close HE.out ((Below.refl _ _).alloc (Nat.le_refl _) _)
  have g12 : ¬ (12 : Int) < (d : Int) := by omega
  by_cases hi0 : i = 0
  case neg =>
    have HE := Lib.hid (node_form (o := .mk 0 i t keys kids) (d := d) hr hd (.inl ⟨hi0, by show ¬ ((0 : Int) = 1 ∨ (0 : Int) = 2 ∨ (0 : Int) = 5); omega⟩))
    generalize nodeE _ d = E at *
    have q0 : (i != 0) = true := by simpa using hi0
    clear hSt hr hd hi0
    go_enter Tryz.func38, Tryz.ntmps38
    go_wp2_with fail
    go_ret
    exact node_close HE.out ((Below.refl _ _).alloc (Nat.le_refl _) _)
  subst hi0
  by_cases ht0 : t = []
  case neg =>
    have HE := Lib.hid (node_form (o := .mk 0 0 t keys kids) (d := d) hr hd (.inr (.inl ⟨ht0, by show ¬ ((0 : Int) = 3 ∨ (0 : Int) = 4); omega⟩)))
    generalize nodeE _ d = E at *
    have hne : ¬ S.toList = [] := by rw [hSt]; exact ht0
    have hem : (!S.toList.isEmpty) = true := by rw [hSt]; cases t with | nil => exact absurd rfl ht0 | cons a b => rfl
    clear hSt hr hd ht0
    go_enter Tryz.func38, Tryz.ntmps38
    go_wp2_with fail
    go_ret
    exact node_close HE.out ((Below.refl _ _).alloc (Nat.le_refl _) _)
  subst ht0
  have hem : S.toList = [] := hSt
  have hem2 : (!S.toList.isEmpty) = false := by rw [hem]; rfl
  clear hSt
  by_cases hn0 : 0 < kids.length
  case pos =>
    have HE := Lib.hid (node_form (o := .mk 0 0 [] keys kids) (d := d) hr hd (.inr (.inr ⟨hn0, by show ¬ ((0 : Int) = 6 ∨ (0 : Int) = 7); omega⟩)))
    generalize nodeE _ d = E at *
    have hn1 : decide (0 < kids.length) = true := decide_eq_true hn0
    clear hr hd
    go_enter Tryz.func38, Tryz.ntmps38
    go_wp2_with fail
    go_ret
    exact node_close HE.out ((Below.refl _ _).alloc (Nat.le_refl _) _)
  have hn1 : decide (0 < kids.length) = false := decide_eq_false hn0
  have hb : ¬ (((Ox.mk 0 0 [] keys kids).int ≠ 0 ∧ ¬ ((Ox.mk 0 0 [] keys kids).kind = 1 ∨ (Ox.mk 0 0 [] keys kids).kind = 2 ∨ (Ox.mk 0 0 [] keys kids).kind = 5)) ∨ ((Ox.mk 0 0 [] keys kids).text ≠ [] ∧ ¬ ((Ox.mk 0 0 [] keys kids).kind = 3 ∨ (Ox.mk 0 0 [] keys kids).kind = 4)) ∨ (0 < (Ox.mk 0 0 [] keys kids).kids.length ∧ ¬ ((Ox.mk 0 0 [] keys kids).kind = 6 ∨ (Ox.mk 0 0 [] keys kids).kind = 7))) := fun h => h.elim (fun h => h.1 rfl) fun h => h.elim (fun h => h.1 rfl) (fun h => hn0 h.1)
  by_cases hkn : 0 < keys.length
  · have HE := Lib.hid (node_keys (o := (Ox.mk 0 0 [] keys kids)) (d := d) hr hd hb (.inr ⟨by show (0 : Int) ≠ 7; omega, hkn⟩))
    have hkb : decide (0 < keys.length) = true := decide_eq_true hkn
    generalize nodeE _ d = E at *
    clear hr hd hb
    go_enter Tryz.func38, Tryz.ntmps38
    go_wp2_with fail
    go_ret
    exact node_close HE.out ((Below.refl _ _).alloc (Nat.le_refl _) _)
  have hk : ¬ (((Ox.mk 0 0 [] keys kids).kind = 7 ∧ (Ox.mk 0 0 [] keys kids).keys.length ≠ (Ox.mk 0 0 [] keys kids).kids.length) ∨ ((Ox.mk 0 0 [] keys kids).kind ≠ 7 ∧ 0 < (Ox.mk 0 0 [] keys kids).keys.length)) := fun h => h.elim (fun h => absurd h.1 (by show (0 : Int) ≠ 7; omega)) fun h => hkn h.2
  have hkb : decide (0 < keys.length) = false := decide_eq_false hkn
  obtain rfl : keys = [] := List.eq_nil_of_length_eq_zero (by omega)
  clear hkn
  have hi : ¬ ((Ox.mk 0 0 [] [] kids).kind = 1 ∧ (Ox.mk 0 0 [] [] kids).int ≠ 0 ∧ (Ox.mk 0 0 [] [] kids).int ≠ 1) := fun h => absurd h.1 (by show (0 : Int) ≠ 1; omega)
  have hl1 : ¬ (256 : Int) < (kids.length : Int) := by omega
  have hl : ¬ 256 < kids.length := by omega
  have HE := Lib.hid (node_rest (o := (Ox.mk 0 0 [] [] kids)) (d := d) hr hd hb hk hi hl)
  generalize nodeE _ d = E at *
  clear hr hd hb hk hi hl
  go_enter Tryz.func38, Tryz.ntmps38
  go_wp2_with fail
  refine wp_loop_rounds 1 ?_
  rw [rounds_succ]
  go_wp2_with fail
  go_ret
  exact node_close HE.out ((Below.refl _ _).alloc (Nat.le_refl _) _)
set_option maxRecDepth 100000 in
set_option maxHeartbeats 16000000 in
theorem node_k1 (i : Int) (t : Tk.Src) (keys : List Tk.Src) (kids : List Ox) (A B : Option Addr) (kc c : Nat) (d : Nat) (w : World) :
    Calls Tryz.prog 38 #[.agg #[.int .i64 1, .int .i64 i, .string ⟨t.toArray⟩, .slice A keys.length kc, .slice B kids.length c], .int .i64 d] w (NodePost (nodeE (.mk 1 i t keys kids) d) w) := by
  have hr : ¬ ((Ox.mk 1 i t keys kids).kind < 0 ∨ 7 < (Ox.mk 1 i t keys kids).kind) := by show ¬ ((1 : Int) < 0 ∨ 7 < (1 : Int)); omega
  obtain ⟨S, hS⟩ : ∃ S : ByteArray, S = ⟨t.toArray⟩ := ⟨_, rfl⟩
  have hSt := text_ne hS
  rw [← hS]
  clear hS
  by_cases hd : 12 < d
  · have HE := Lib.hid (node_deep (d := d) hr hd)
    have g12 : (12 : Int) < (d : Int) := by omega
    clear hSt hr hd
    generalize nodeE _ d = E at *
    go_enter Tryz.func38, Tryz.ntmps38
    go_wp2_with fail
    go_ret
    exact node_close HE.out ((Below.refl _ _).alloc (Nat.le_refl _) _)
  have g12 : ¬ (12 : Int) < (d : Int) := by omega
  by_cases ht0 : t = []
  case neg =>
    have HE := Lib.hid (node_form (o := .mk 1 i t keys kids) (d := d) hr hd (.inr (.inl ⟨ht0, by show ¬ ((1 : Int) = 3 ∨ (1 : Int) = 4); omega⟩)))
    generalize nodeE _ d = E at *
    have hne : ¬ S.toList = [] := by rw [hSt]; exact ht0
    have hem : (!S.toList.isEmpty) = true := by rw [hSt]; cases t with | nil => exact absurd rfl ht0 | cons a b => rfl
    clear hSt hr hd ht0
    by_cases hi0 : i = 0
    · subst hi0
      go_enter Tryz.func38, Tryz.ntmps38
      go_wp2_with fail
      go_ret
      exact node_close HE.out ((Below.refl _ _).alloc (Nat.le_refl _) _)
    · have q0 : (i != 0) = true := by simpa using hi0
      clear hi0
      go_enter Tryz.func38, Tryz.ntmps38
      go_wp2_with fail
      go_ret
      exact node_close HE.out ((Below.refl _ _).alloc (Nat.le_refl _) _)
  subst ht0
  have hem : S.toList = [] := hSt
  have hem2 : (!S.toList.isEmpty) = false := by rw [hem]; rfl
  clear hSt
  by_cases hn0 : 0 < kids.length
  case pos =>
    have HE := Lib.hid (node_form (o := .mk 1 i [] keys kids) (d := d) hr hd (.inr (.inr ⟨hn0, by show ¬ ((1 : Int) = 6 ∨ (1 : Int) = 7); omega⟩)))
    generalize nodeE _ d = E at *
    have hn1 : decide (0 < kids.length) = true := decide_eq_true hn0
    clear hr hd
    by_cases hi0 : i = 0
    · subst hi0
      go_enter Tryz.func38, Tryz.ntmps38
      go_wp2_with fail
      go_ret
      exact node_close HE.out ((Below.refl _ _).alloc (Nat.le_refl _) _)
    · have q0 : (i != 0) = true := by simpa using hi0
      clear hi0
      go_enter Tryz.func38, Tryz.ntmps38
      go_wp2_with fail
      go_ret
      exact node_close HE.out ((Below.refl _ _).alloc (Nat.le_refl _) _)
  have hn1 : decide (0 < kids.length) = false := decide_eq_false hn0
  have hb : ¬ (((Ox.mk 1 i [] keys kids).int ≠ 0 ∧ ¬ ((Ox.mk 1 i [] keys kids).kind = 1 ∨ (Ox.mk 1 i [] keys kids).kind = 2 ∨ (Ox.mk 1 i [] keys kids).kind = 5)) ∨ ((Ox.mk 1 i [] keys kids).text ≠ [] ∧ ¬ ((Ox.mk 1 i [] keys kids).kind = 3 ∨ (Ox.mk 1 i [] keys kids).kind = 4)) ∨ (0 < (Ox.mk 1 i [] keys kids).kids.length ∧ ¬ ((Ox.mk 1 i [] keys kids).kind = 6 ∨ (Ox.mk 1 i [] keys kids).kind = 7))) := fun h => h.elim (fun h => h.2 (by show ((1 : Int) = 1 ∨ (1 : Int) = 2 ∨ (1 : Int) = 5); omega)) fun h => h.elim (fun h => h.1 rfl) (fun h => hn0 h.1)
  by_cases hkn : 0 < keys.length
  · have HE := Lib.hid (node_keys (o := (Ox.mk 1 i [] keys kids)) (d := d) hr hd hb (.inr ⟨by show (1 : Int) ≠ 7; omega, hkn⟩))
    have hkb : decide (0 < keys.length) = true := decide_eq_true hkn
    generalize nodeE _ d = E at *
    clear hr hd hb
    by_cases hi0 : i = 0
    · subst hi0
      go_enter Tryz.func38, Tryz.ntmps38
      go_wp2_with fail
      go_ret
      exact node_close HE.out ((Below.refl _ _).alloc (Nat.le_refl _) _)
    · have q0 : (i != 0) = true := by simpa using hi0
      clear hi0
      go_enter Tryz.func38, Tryz.ntmps38
      go_wp2_with fail
      go_ret
      exact node_close HE.out ((Below.refl _ _).alloc (Nat.le_refl _) _)
  have hk : ¬ (((Ox.mk 1 i [] keys kids).kind = 7 ∧ (Ox.mk 1 i [] keys kids).keys.length ≠ (Ox.mk 1 i [] keys kids).kids.length) ∨ ((Ox.mk 1 i [] keys kids).kind ≠ 7 ∧ 0 < (Ox.mk 1 i [] keys kids).keys.length)) := fun h => h.elim (fun h => absurd h.1 (by show (1 : Int) ≠ 7; omega)) fun h => hkn h.2
  have hkb : decide (0 < keys.length) = false := decide_eq_false hkn
  obtain rfl : keys = [] := List.eq_nil_of_length_eq_zero (by omega)
  clear hkn
  by_cases hi0 : i = 0
  · subst hi0
    have HE := Lib.hid (node_rest (o := (Ox.mk 1 0 [] [] kids)) (d := d) hr hd hb hk (fun h => h.2.1 rfl) (by show ¬ 256 < kids.length; omega))
    have hl : ¬ (256 : Int) < (kids.length : Int) := by omega
    generalize nodeE _ d = E at *
    clear hr hd hb hk
    go_enter Tryz.func38, Tryz.ntmps38
    go_wp2_with fail
    refine wp_loop_rounds 1 ?_
    rw [rounds_succ]
    go_wp2_with fail
    go_ret
    exact node_close HE.out ((Below.refl _ _).alloc (Nat.le_refl _) _)
  by_cases hi1 : i = 1
  · subst hi1
    have HE := Lib.hid (node_rest (o := (Ox.mk 1 1 [] [] kids)) (d := d) hr hd hb hk (fun h => h.2.2 rfl) (by show ¬ 256 < kids.length; omega))
    have hl : ¬ (256 : Int) < (kids.length : Int) := by omega
    generalize nodeE _ d = E at *
    clear hr hd hb hk hi0
    go_enter Tryz.func38, Tryz.ntmps38
    go_wp2_with fail
    refine wp_loop_rounds 1 ?_
    rw [rounds_succ]
    go_wp2_with fail
    go_ret
    exact node_close HE.out ((Below.refl _ _).alloc (Nat.le_refl _) _)
  have HE := Lib.hid (node_bool (o := (Ox.mk 1 i [] [] kids)) (d := d) hr hd hb hk ⟨rfl, hi0, hi1⟩)
  have q0 : (i != 0) = true := by simpa using hi0
  have q1 : (i != 1) = true := by simpa using hi1
  generalize nodeE _ d = E at *
  clear hr hd hb hk hi0 hi1
  go_enter Tryz.func38, Tryz.ntmps38
  go_wp2_with fail
  go_ret
  exact node_close HE.out ((Below.refl _ _).alloc (Nat.le_refl _) _)
set_option maxRecDepth 100000 in
set_option maxHeartbeats 16000000 in
theorem node_k2 (i : Int) (t : Tk.Src) (keys : List Tk.Src) (kids : List Ox) (A B : Option Addr) (kc c : Nat) (d : Nat) (w : World) :
    Calls Tryz.prog 38 #[.agg #[.int .i64 2, .int .i64 i, .string ⟨t.toArray⟩, .slice A keys.length kc, .slice B kids.length c], .int .i64 d] w (NodePost (nodeE (.mk 2 i t keys kids) d) w) := by
  have hr : ¬ ((Ox.mk 2 i t keys kids).kind < 0 ∨ 7 < (Ox.mk 2 i t keys kids).kind) := by show ¬ ((2 : Int) < 0 ∨ 7 < (2 : Int)); omega
  obtain ⟨S, hS⟩ : ∃ S : ByteArray, S = ⟨t.toArray⟩ := ⟨_, rfl⟩
  have hSt := text_ne hS
  rw [← hS]
  clear hS
  by_cases hd : 12 < d
  · have HE := Lib.hid (node_deep (d := d) hr hd)
    have g12 : (12 : Int) < (d : Int) := by omega
    clear hSt hr hd
    generalize nodeE _ d = E at *
    go_enter Tryz.func38, Tryz.ntmps38
    go_wp2_with fail
    go_ret
    exact node_close HE.out ((Below.refl _ _).alloc (Nat.le_refl _) _)
  have g12 : ¬ (12 : Int) < (d : Int) := by omega
  by_cases ht0 : t = []
  case neg =>
    have HE := Lib.hid (node_form (o := .mk 2 i t keys kids) (d := d) hr hd (.inr (.inl ⟨ht0, by show ¬ ((2 : Int) = 3 ∨ (2 : Int) = 4); omega⟩)))
    generalize nodeE _ d = E at *
    have hne : ¬ S.toList = [] := by rw [hSt]; exact ht0
    have hem : (!S.toList.isEmpty) = true := by rw [hSt]; cases t with | nil => exact absurd rfl ht0 | cons a b => rfl
    clear hSt hr hd ht0
    by_cases hi0 : i = 0
    · subst hi0
      go_enter Tryz.func38, Tryz.ntmps38
      go_wp2_with fail
      go_ret
      exact node_close HE.out ((Below.refl _ _).alloc (Nat.le_refl _) _)
    · have q0 : (i != 0) = true := by simpa using hi0
      clear hi0
      go_enter Tryz.func38, Tryz.ntmps38
      go_wp2_with fail
      go_ret
      exact node_close HE.out ((Below.refl _ _).alloc (Nat.le_refl _) _)
  subst ht0
  have hem : S.toList = [] := hSt
  have hem2 : (!S.toList.isEmpty) = false := by rw [hem]; rfl
  clear hSt
  by_cases hn0 : 0 < kids.length
  case pos =>
    have HE := Lib.hid (node_form (o := .mk 2 i [] keys kids) (d := d) hr hd (.inr (.inr ⟨hn0, by show ¬ ((2 : Int) = 6 ∨ (2 : Int) = 7); omega⟩)))
    generalize nodeE _ d = E at *
    have hn1 : decide (0 < kids.length) = true := decide_eq_true hn0
    clear hr hd
    by_cases hi0 : i = 0
    · subst hi0
      go_enter Tryz.func38, Tryz.ntmps38
      go_wp2_with fail
      go_ret
      exact node_close HE.out ((Below.refl _ _).alloc (Nat.le_refl _) _)
    · have q0 : (i != 0) = true := by simpa using hi0
      clear hi0
      go_enter Tryz.func38, Tryz.ntmps38
      go_wp2_with fail
      go_ret
      exact node_close HE.out ((Below.refl _ _).alloc (Nat.le_refl _) _)
  have hn1 : decide (0 < kids.length) = false := decide_eq_false hn0
  have hb : ¬ (((Ox.mk 2 i [] keys kids).int ≠ 0 ∧ ¬ ((Ox.mk 2 i [] keys kids).kind = 1 ∨ (Ox.mk 2 i [] keys kids).kind = 2 ∨ (Ox.mk 2 i [] keys kids).kind = 5)) ∨ ((Ox.mk 2 i [] keys kids).text ≠ [] ∧ ¬ ((Ox.mk 2 i [] keys kids).kind = 3 ∨ (Ox.mk 2 i [] keys kids).kind = 4)) ∨ (0 < (Ox.mk 2 i [] keys kids).kids.length ∧ ¬ ((Ox.mk 2 i [] keys kids).kind = 6 ∨ (Ox.mk 2 i [] keys kids).kind = 7))) := fun h => h.elim (fun h => h.2 (by show ((2 : Int) = 1 ∨ (2 : Int) = 2 ∨ (2 : Int) = 5); omega)) fun h => h.elim (fun h => h.1 rfl) (fun h => hn0 h.1)
  by_cases hkn : 0 < keys.length
  · have HE := Lib.hid (node_keys (o := (Ox.mk 2 i [] keys kids)) (d := d) hr hd hb (.inr ⟨by show (2 : Int) ≠ 7; omega, hkn⟩))
    have hkb : decide (0 < keys.length) = true := decide_eq_true hkn
    generalize nodeE _ d = E at *
    clear hr hd hb
    by_cases hi0 : i = 0
    · subst hi0
      go_enter Tryz.func38, Tryz.ntmps38
      go_wp2_with fail
      go_ret
      exact node_close HE.out ((Below.refl _ _).alloc (Nat.le_refl _) _)
    · have q0 : (i != 0) = true := by simpa using hi0
      clear hi0
      go_enter Tryz.func38, Tryz.ntmps38
      go_wp2_with fail
      go_ret
      exact node_close HE.out ((Below.refl _ _).alloc (Nat.le_refl _) _)
  have hk : ¬ (((Ox.mk 2 i [] keys kids).kind = 7 ∧ (Ox.mk 2 i [] keys kids).keys.length ≠ (Ox.mk 2 i [] keys kids).kids.length) ∨ ((Ox.mk 2 i [] keys kids).kind ≠ 7 ∧ 0 < (Ox.mk 2 i [] keys kids).keys.length)) := fun h => h.elim (fun h => absurd h.1 (by show (2 : Int) ≠ 7; omega)) fun h => hkn h.2
  have hkb : decide (0 < keys.length) = false := decide_eq_false hkn
  obtain rfl : keys = [] := List.eq_nil_of_length_eq_zero (by omega)
  clear hkn
  have hi : ¬ ((Ox.mk 2 i [] [] kids).kind = 1 ∧ (Ox.mk 2 i [] [] kids).int ≠ 0 ∧ (Ox.mk 2 i [] [] kids).int ≠ 1) := fun h => absurd h.1 (by show (2 : Int) ≠ 1; omega)
  have hl1 : ¬ (256 : Int) < (kids.length : Int) := by omega
  have hl : ¬ 256 < kids.length := by omega
  have HE := Lib.hid (node_rest (o := (Ox.mk 2 i [] [] kids)) (d := d) hr hd hb hk hi hl)
  generalize nodeE _ d = E at *
  clear hr hd hb hk hi hl
  by_cases hi0 : i = 0
  · subst hi0
    go_enter Tryz.func38, Tryz.ntmps38
    go_wp2_with fail
    refine wp_loop_rounds 1 ?_
    rw [rounds_succ]
    go_wp2_with fail
    go_ret
    exact node_close HE.out ((Below.refl _ _).alloc (Nat.le_refl _) _)
  · have q0 : (i != 0) = true := by simpa using hi0
    clear hi0
    go_enter Tryz.func38, Tryz.ntmps38
    go_wp2_with fail
    refine wp_loop_rounds 1 ?_
    rw [rounds_succ]
    go_wp2_with fail
    go_ret
    exact node_close HE.out ((Below.refl _ _).alloc (Nat.le_refl _) _)
set_option maxRecDepth 100000 in
set_option maxHeartbeats 16000000 in
theorem node_k3 (i : Int) (t : Tk.Src) (keys : List Tk.Src) (kids : List Ox) (A B : Option Addr) (kc c : Nat) (d : Nat) (w : World) :
    Calls Tryz.prog 38 #[.agg #[.int .i64 3, .int .i64 i, .string ⟨t.toArray⟩, .slice A keys.length kc, .slice B kids.length c], .int .i64 d] w (NodePost (nodeE (.mk 3 i t keys kids) d) w) := by
  have hr : ¬ ((Ox.mk 3 i t keys kids).kind < 0 ∨ 7 < (Ox.mk 3 i t keys kids).kind) := by show ¬ ((3 : Int) < 0 ∨ 7 < (3 : Int)); omega
  obtain ⟨S, hS⟩ : ∃ S : ByteArray, S = ⟨t.toArray⟩ := ⟨_, rfl⟩
  have hSt := text_ne hS
  rw [← hS]
  clear hS
  by_cases hd : 12 < d
  · have HE := Lib.hid (node_deep (d := d) hr hd)
    have g12 : (12 : Int) < (d : Int) := by omega
    clear hSt hr hd
    generalize nodeE _ d = E at *
    go_enter Tryz.func38, Tryz.ntmps38
    go_wp2_with fail
    go_ret
    exact node_close HE.out ((Below.refl _ _).alloc (Nat.le_refl _) _)
  have g12 : ¬ (12 : Int) < (d : Int) := by omega
  by_cases hi0 : i = 0
  case neg =>
    have HE := Lib.hid (node_form (o := .mk 3 i t keys kids) (d := d) hr hd (.inl ⟨hi0, by show ¬ ((3 : Int) = 1 ∨ (3 : Int) = 2 ∨ (3 : Int) = 5); omega⟩))
    generalize nodeE _ d = E at *
    have q0 : (i != 0) = true := by simpa using hi0
    clear hSt hr hd hi0
    go_enter Tryz.func38, Tryz.ntmps38
    go_wp2_with fail
    go_ret
    exact node_close HE.out ((Below.refl _ _).alloc (Nat.le_refl _) _)
  subst hi0
  by_cases hn0 : 0 < kids.length
  case pos =>
    have HE := Lib.hid (node_form (o := .mk 3 0 t keys kids) (d := d) hr hd (.inr (.inr ⟨hn0, by show ¬ ((3 : Int) = 6 ∨ (3 : Int) = 7); omega⟩)))
    generalize nodeE _ d = E at *
    have hn1 : decide (0 < kids.length) = true := decide_eq_true hn0
    clear hr hd
    by_cases ht0 : t = []
    · subst ht0
      have hem : S.toList = [] := hSt
      have hem2 : (!S.toList.isEmpty) = false := by rw [hem]; rfl
      clear hSt
      go_enter Tryz.func38, Tryz.ntmps38
      go_wp2_with fail
      go_ret
      exact node_close HE.out ((Below.refl _ _).alloc (Nat.le_refl _) _)
    · have hne : ¬ S.toList = [] := by rw [hSt]; exact ht0
      have hem : (!S.toList.isEmpty) = true := by rw [hSt]; cases t with | nil => exact absurd rfl ht0 | cons a b => rfl
      clear hSt ht0
      go_enter Tryz.func38, Tryz.ntmps38
      go_wp2_with fail
      go_ret
      exact node_close HE.out ((Below.refl _ _).alloc (Nat.le_refl _) _)
  have hn1 : decide (0 < kids.length) = false := decide_eq_false hn0
  have hb : ¬ (((Ox.mk 3 0 t keys kids).int ≠ 0 ∧ ¬ ((Ox.mk 3 0 t keys kids).kind = 1 ∨ (Ox.mk 3 0 t keys kids).kind = 2 ∨ (Ox.mk 3 0 t keys kids).kind = 5)) ∨ ((Ox.mk 3 0 t keys kids).text ≠ [] ∧ ¬ ((Ox.mk 3 0 t keys kids).kind = 3 ∨ (Ox.mk 3 0 t keys kids).kind = 4)) ∨ (0 < (Ox.mk 3 0 t keys kids).kids.length ∧ ¬ ((Ox.mk 3 0 t keys kids).kind = 6 ∨ (Ox.mk 3 0 t keys kids).kind = 7))) := fun h => h.elim (fun h => h.1 rfl) fun h => h.elim (fun h => h.2 (by show ((3 : Int) = 3 ∨ (3 : Int) = 4); omega)) (fun h => hn0 h.1)
  by_cases hkn : 0 < keys.length
  · have HE := Lib.hid (node_keys (o := (Ox.mk 3 0 t keys kids)) (d := d) hr hd hb (.inr ⟨by show (3 : Int) ≠ 7; omega, hkn⟩))
    have hkb : decide (0 < keys.length) = true := decide_eq_true hkn
    generalize nodeE _ d = E at *
    clear hr hd hb
    by_cases ht0 : t = []
    · subst ht0
      have hem : S.toList = [] := hSt
      have hem2 : (!S.toList.isEmpty) = false := by rw [hem]; rfl
      clear hSt
      go_enter Tryz.func38, Tryz.ntmps38
      go_wp2_with fail
      go_ret
      exact node_close HE.out ((Below.refl _ _).alloc (Nat.le_refl _) _)
    · have hne : ¬ S.toList = [] := by rw [hSt]; exact ht0
      have hem : (!S.toList.isEmpty) = true := by rw [hSt]; cases t with | nil => exact absurd rfl ht0 | cons a b => rfl
      clear hSt ht0
      go_enter Tryz.func38, Tryz.ntmps38
      go_wp2_with fail
      go_ret
      exact node_close HE.out ((Below.refl _ _).alloc (Nat.le_refl _) _)
  have hk : ¬ (((Ox.mk 3 0 t keys kids).kind = 7 ∧ (Ox.mk 3 0 t keys kids).keys.length ≠ (Ox.mk 3 0 t keys kids).kids.length) ∨ ((Ox.mk 3 0 t keys kids).kind ≠ 7 ∧ 0 < (Ox.mk 3 0 t keys kids).keys.length)) := fun h => h.elim (fun h => absurd h.1 (by show (3 : Int) ≠ 7; omega)) fun h => hkn h.2
  have hkb : decide (0 < keys.length) = false := decide_eq_false hkn
  obtain rfl : keys = [] := List.eq_nil_of_length_eq_zero (by omega)
  clear hkn
  have hi : ¬ ((Ox.mk 3 0 t [] kids).kind = 1 ∧ (Ox.mk 3 0 t [] kids).int ≠ 0 ∧ (Ox.mk 3 0 t [] kids).int ≠ 1) := fun h => absurd h.1 (by show (3 : Int) ≠ 1; omega)
  have hl1 : ¬ (256 : Int) < (kids.length : Int) := by omega
  have hl : ¬ 256 < kids.length := by omega
  have HE := Lib.hid (node_rest (o := (Ox.mk 3 0 t [] kids)) (d := d) hr hd hb hk hi hl)
  generalize nodeE _ d = E at *
  clear hr hd hb hk hi hl
  by_cases ht0 : t = []
  · subst ht0
    have hem : S.toList = [] := hSt
    have hem2 : (!S.toList.isEmpty) = false := by rw [hem]; rfl
    clear hSt
    go_enter Tryz.func38, Tryz.ntmps38
    go_wp2_with fail
    refine wp_loop_rounds 1 ?_
    rw [rounds_succ]
    go_wp2_with fail
    go_ret
    exact node_close HE.out ((Below.refl _ _).alloc (Nat.le_refl _) _)
  · have hne : ¬ S.toList = [] := by rw [hSt]; exact ht0
    have hem : (!S.toList.isEmpty) = true := by rw [hSt]; cases t with | nil => exact absurd rfl ht0 | cons a b => rfl
    clear hSt ht0
    go_enter Tryz.func38, Tryz.ntmps38
    go_wp2_with fail
    refine wp_loop_rounds 1 ?_
    rw [rounds_succ]
    go_wp2_with fail
    go_ret
    exact node_close HE.out ((Below.refl _ _).alloc (Nat.le_refl _) _)
set_option maxRecDepth 100000 in
set_option maxHeartbeats 16000000 in
theorem node_k4 (i : Int) (t : Tk.Src) (keys : List Tk.Src) (kids : List Ox) (A B : Option Addr) (kc c : Nat) (d : Nat) (w : World) :
    Calls Tryz.prog 38 #[.agg #[.int .i64 4, .int .i64 i, .string ⟨t.toArray⟩, .slice A keys.length kc, .slice B kids.length c], .int .i64 d] w (NodePost (nodeE (.mk 4 i t keys kids) d) w) := by
  have hr : ¬ ((Ox.mk 4 i t keys kids).kind < 0 ∨ 7 < (Ox.mk 4 i t keys kids).kind) := by show ¬ ((4 : Int) < 0 ∨ 7 < (4 : Int)); omega
  obtain ⟨S, hS⟩ : ∃ S : ByteArray, S = ⟨t.toArray⟩ := ⟨_, rfl⟩
  have hSt := text_ne hS
  rw [← hS]
  clear hS
  by_cases hd : 12 < d
  · have HE := Lib.hid (node_deep (d := d) hr hd)
    have g12 : (12 : Int) < (d : Int) := by omega
    clear hSt hr hd
    generalize nodeE _ d = E at *
    go_enter Tryz.func38, Tryz.ntmps38
    go_wp2_with fail
    go_ret
    exact node_close HE.out ((Below.refl _ _).alloc (Nat.le_refl _) _)
  have g12 : ¬ (12 : Int) < (d : Int) := by omega
  by_cases hi0 : i = 0
  case neg =>
    have HE := Lib.hid (node_form (o := .mk 4 i t keys kids) (d := d) hr hd (.inl ⟨hi0, by show ¬ ((4 : Int) = 1 ∨ (4 : Int) = 2 ∨ (4 : Int) = 5); omega⟩))
    generalize nodeE _ d = E at *
    have q0 : (i != 0) = true := by simpa using hi0
    clear hSt hr hd hi0
    go_enter Tryz.func38, Tryz.ntmps38
    go_wp2_with fail
    go_ret
    exact node_close HE.out ((Below.refl _ _).alloc (Nat.le_refl _) _)
  subst hi0
  by_cases hn0 : 0 < kids.length
  case pos =>
    have HE := Lib.hid (node_form (o := .mk 4 0 t keys kids) (d := d) hr hd (.inr (.inr ⟨hn0, by show ¬ ((4 : Int) = 6 ∨ (4 : Int) = 7); omega⟩)))
    generalize nodeE _ d = E at *
    have hn1 : decide (0 < kids.length) = true := decide_eq_true hn0
    clear hr hd
    by_cases ht0 : t = []
    · subst ht0
      have hem : S.toList = [] := hSt
      have hem2 : (!S.toList.isEmpty) = false := by rw [hem]; rfl
      clear hSt
      go_enter Tryz.func38, Tryz.ntmps38
      go_wp2_with fail
      go_ret
      exact node_close HE.out ((Below.refl _ _).alloc (Nat.le_refl _) _)
    · have hne : ¬ S.toList = [] := by rw [hSt]; exact ht0
      have hem : (!S.toList.isEmpty) = true := by rw [hSt]; cases t with | nil => exact absurd rfl ht0 | cons a b => rfl
      clear hSt ht0
      go_enter Tryz.func38, Tryz.ntmps38
      go_wp2_with fail
      go_ret
      exact node_close HE.out ((Below.refl _ _).alloc (Nat.le_refl _) _)
  have hn1 : decide (0 < kids.length) = false := decide_eq_false hn0
  have hb : ¬ (((Ox.mk 4 0 t keys kids).int ≠ 0 ∧ ¬ ((Ox.mk 4 0 t keys kids).kind = 1 ∨ (Ox.mk 4 0 t keys kids).kind = 2 ∨ (Ox.mk 4 0 t keys kids).kind = 5)) ∨ ((Ox.mk 4 0 t keys kids).text ≠ [] ∧ ¬ ((Ox.mk 4 0 t keys kids).kind = 3 ∨ (Ox.mk 4 0 t keys kids).kind = 4)) ∨ (0 < (Ox.mk 4 0 t keys kids).kids.length ∧ ¬ ((Ox.mk 4 0 t keys kids).kind = 6 ∨ (Ox.mk 4 0 t keys kids).kind = 7))) := fun h => h.elim (fun h => h.1 rfl) fun h => h.elim (fun h => h.2 (by show ((4 : Int) = 3 ∨ (4 : Int) = 4); omega)) (fun h => hn0 h.1)
  by_cases hkn : 0 < keys.length
  · have HE := Lib.hid (node_keys (o := (Ox.mk 4 0 t keys kids)) (d := d) hr hd hb (.inr ⟨by show (4 : Int) ≠ 7; omega, hkn⟩))
    have hkb : decide (0 < keys.length) = true := decide_eq_true hkn
    generalize nodeE _ d = E at *
    clear hr hd hb
    by_cases ht0 : t = []
    · subst ht0
      have hem : S.toList = [] := hSt
      have hem2 : (!S.toList.isEmpty) = false := by rw [hem]; rfl
      clear hSt
      go_enter Tryz.func38, Tryz.ntmps38
      go_wp2_with fail
      go_ret
      exact node_close HE.out ((Below.refl _ _).alloc (Nat.le_refl _) _)
    · have hne : ¬ S.toList = [] := by rw [hSt]; exact ht0
      have hem : (!S.toList.isEmpty) = true := by rw [hSt]; cases t with | nil => exact absurd rfl ht0 | cons a b => rfl
      clear hSt ht0
      go_enter Tryz.func38, Tryz.ntmps38
      go_wp2_with fail
      go_ret
      exact node_close HE.out ((Below.refl _ _).alloc (Nat.le_refl _) _)
  have hk : ¬ (((Ox.mk 4 0 t keys kids).kind = 7 ∧ (Ox.mk 4 0 t keys kids).keys.length ≠ (Ox.mk 4 0 t keys kids).kids.length) ∨ ((Ox.mk 4 0 t keys kids).kind ≠ 7 ∧ 0 < (Ox.mk 4 0 t keys kids).keys.length)) := fun h => h.elim (fun h => absurd h.1 (by show (4 : Int) ≠ 7; omega)) fun h => hkn h.2
  have hkb : decide (0 < keys.length) = false := decide_eq_false hkn
  obtain rfl : keys = [] := List.eq_nil_of_length_eq_zero (by omega)
  clear hkn
  have hi : ¬ ((Ox.mk 4 0 t [] kids).kind = 1 ∧ (Ox.mk 4 0 t [] kids).int ≠ 0 ∧ (Ox.mk 4 0 t [] kids).int ≠ 1) := fun h => absurd h.1 (by show (4 : Int) ≠ 1; omega)
  have hl1 : ¬ (256 : Int) < (kids.length : Int) := by omega
  have hl : ¬ 256 < kids.length := by omega
  have HE := Lib.hid (node_rest (o := (Ox.mk 4 0 t [] kids)) (d := d) hr hd hb hk hi hl)
  generalize nodeE _ d = E at *
  clear hr hd hb hk hi hl
  by_cases ht0 : t = []
  · subst ht0
    have hem : S.toList = [] := hSt
    have hem2 : (!S.toList.isEmpty) = false := by rw [hem]; rfl
    clear hSt
    go_enter Tryz.func38, Tryz.ntmps38
    go_wp2_with fail
    refine wp_loop_rounds 1 ?_
    rw [rounds_succ]
    go_wp2_with fail
    go_ret
    exact node_close HE.out ((Below.refl _ _).alloc (Nat.le_refl _) _)
  · have hne : ¬ S.toList = [] := by rw [hSt]; exact ht0
    have hem : (!S.toList.isEmpty) = true := by rw [hSt]; cases t with | nil => exact absurd rfl ht0 | cons a b => rfl
    clear hSt ht0
    go_enter Tryz.func38, Tryz.ntmps38
    go_wp2_with fail
    refine wp_loop_rounds 1 ?_
    rw [rounds_succ]
    go_wp2_with fail
    go_ret
    exact node_close HE.out ((Below.refl _ _).alloc (Nat.le_refl _) _)
set_option maxRecDepth 100000 in
set_option maxHeartbeats 16000000 in
theorem node_k5 (i : Int) (t : Tk.Src) (keys : List Tk.Src) (kids : List Ox) (A B : Option Addr) (kc c : Nat) (d : Nat) (w : World) :
    Calls Tryz.prog 38 #[.agg #[.int .i64 5, .int .i64 i, .string ⟨t.toArray⟩, .slice A keys.length kc, .slice B kids.length c], .int .i64 d] w (NodePost (nodeE (.mk 5 i t keys kids) d) w) := by
  have hr : ¬ ((Ox.mk 5 i t keys kids).kind < 0 ∨ 7 < (Ox.mk 5 i t keys kids).kind) := by show ¬ ((5 : Int) < 0 ∨ 7 < (5 : Int)); omega
  obtain ⟨S, hS⟩ : ∃ S : ByteArray, S = ⟨t.toArray⟩ := ⟨_, rfl⟩
  have hSt := text_ne hS
  rw [← hS]
  clear hS
  by_cases hd : 12 < d
  · have HE := Lib.hid (node_deep (d := d) hr hd)
    have g12 : (12 : Int) < (d : Int) := by omega
    clear hSt hr hd
    generalize nodeE _ d = E at *
    go_enter Tryz.func38, Tryz.ntmps38
    go_wp2_with fail
    go_ret
    exact node_close HE.out ((Below.refl _ _).alloc (Nat.le_refl _) _)
  have g12 : ¬ (12 : Int) < (d : Int) := by omega
  by_cases ht0 : t = []
  case neg =>
    have HE := Lib.hid (node_form (o := .mk 5 i t keys kids) (d := d) hr hd (.inr (.inl ⟨ht0, by show ¬ ((5 : Int) = 3 ∨ (5 : Int) = 4); omega⟩)))
    generalize nodeE _ d = E at *
    have hne : ¬ S.toList = [] := by rw [hSt]; exact ht0
    have hem : (!S.toList.isEmpty) = true := by rw [hSt]; cases t with | nil => exact absurd rfl ht0 | cons a b => rfl
    clear hSt hr hd ht0
    by_cases hi0 : i = 0
    · subst hi0
      go_enter Tryz.func38, Tryz.ntmps38
      go_wp2_with fail
      go_ret
      exact node_close HE.out ((Below.refl _ _).alloc (Nat.le_refl _) _)
    · have q0 : (i != 0) = true := by simpa using hi0
      clear hi0
      go_enter Tryz.func38, Tryz.ntmps38
      go_wp2_with fail
      go_ret
      exact node_close HE.out ((Below.refl _ _).alloc (Nat.le_refl _) _)
  subst ht0
  have hem : S.toList = [] := hSt
  have hem2 : (!S.toList.isEmpty) = false := by rw [hem]; rfl
  clear hSt
  by_cases hn0 : 0 < kids.length
  case pos =>
    have HE := Lib.hid (node_form (o := .mk 5 i [] keys kids) (d := d) hr hd (.inr (.inr ⟨hn0, by show ¬ ((5 : Int) = 6 ∨ (5 : Int) = 7); omega⟩)))
    generalize nodeE _ d = E at *
    have hn1 : decide (0 < kids.length) = true := decide_eq_true hn0
    clear hr hd
    by_cases hi0 : i = 0
    · subst hi0
      go_enter Tryz.func38, Tryz.ntmps38
      go_wp2_with fail
      go_ret
      exact node_close HE.out ((Below.refl _ _).alloc (Nat.le_refl _) _)
    · have q0 : (i != 0) = true := by simpa using hi0
      clear hi0
      go_enter Tryz.func38, Tryz.ntmps38
      go_wp2_with fail
      go_ret
      exact node_close HE.out ((Below.refl _ _).alloc (Nat.le_refl _) _)
  have hn1 : decide (0 < kids.length) = false := decide_eq_false hn0
  have hb : ¬ (((Ox.mk 5 i [] keys kids).int ≠ 0 ∧ ¬ ((Ox.mk 5 i [] keys kids).kind = 1 ∨ (Ox.mk 5 i [] keys kids).kind = 2 ∨ (Ox.mk 5 i [] keys kids).kind = 5)) ∨ ((Ox.mk 5 i [] keys kids).text ≠ [] ∧ ¬ ((Ox.mk 5 i [] keys kids).kind = 3 ∨ (Ox.mk 5 i [] keys kids).kind = 4)) ∨ (0 < (Ox.mk 5 i [] keys kids).kids.length ∧ ¬ ((Ox.mk 5 i [] keys kids).kind = 6 ∨ (Ox.mk 5 i [] keys kids).kind = 7))) := fun h => h.elim (fun h => h.2 (by show ((5 : Int) = 1 ∨ (5 : Int) = 2 ∨ (5 : Int) = 5); omega)) fun h => h.elim (fun h => h.1 rfl) (fun h => hn0 h.1)
  by_cases hkn : 0 < keys.length
  · have HE := Lib.hid (node_keys (o := (Ox.mk 5 i [] keys kids)) (d := d) hr hd hb (.inr ⟨by show (5 : Int) ≠ 7; omega, hkn⟩))
    have hkb : decide (0 < keys.length) = true := decide_eq_true hkn
    generalize nodeE _ d = E at *
    clear hr hd hb
    by_cases hi0 : i = 0
    · subst hi0
      go_enter Tryz.func38, Tryz.ntmps38
      go_wp2_with fail
      go_ret
      exact node_close HE.out ((Below.refl _ _).alloc (Nat.le_refl _) _)
    · have q0 : (i != 0) = true := by simpa using hi0
      clear hi0
      go_enter Tryz.func38, Tryz.ntmps38
      go_wp2_with fail
      go_ret
      exact node_close HE.out ((Below.refl _ _).alloc (Nat.le_refl _) _)
  have hk : ¬ (((Ox.mk 5 i [] keys kids).kind = 7 ∧ (Ox.mk 5 i [] keys kids).keys.length ≠ (Ox.mk 5 i [] keys kids).kids.length) ∨ ((Ox.mk 5 i [] keys kids).kind ≠ 7 ∧ 0 < (Ox.mk 5 i [] keys kids).keys.length)) := fun h => h.elim (fun h => absurd h.1 (by show (5 : Int) ≠ 7; omega)) fun h => hkn h.2
  have hkb : decide (0 < keys.length) = false := decide_eq_false hkn
  obtain rfl : keys = [] := List.eq_nil_of_length_eq_zero (by omega)
  clear hkn
  have hi : ¬ ((Ox.mk 5 i [] [] kids).kind = 1 ∧ (Ox.mk 5 i [] [] kids).int ≠ 0 ∧ (Ox.mk 5 i [] [] kids).int ≠ 1) := fun h => absurd h.1 (by show (5 : Int) ≠ 1; omega)
  have hl1 : ¬ (256 : Int) < (kids.length : Int) := by omega
  have hl : ¬ 256 < kids.length := by omega
  have HE := Lib.hid (node_rest (o := (Ox.mk 5 i [] [] kids)) (d := d) hr hd hb hk hi hl)
  generalize nodeE _ d = E at *
  clear hr hd hb hk hi hl
  by_cases hi0 : i = 0
  · subst hi0
    go_enter Tryz.func38, Tryz.ntmps38
    go_wp2_with fail
    refine wp_loop_rounds 1 ?_
    rw [rounds_succ]
    go_wp2_with fail
    go_ret
    exact node_close HE.out ((Below.refl _ _).alloc (Nat.le_refl _) _)
  · have q0 : (i != 0) = true := by simpa using hi0
    clear hi0
    go_enter Tryz.func38, Tryz.ntmps38
    go_wp2_with fail
    refine wp_loop_rounds 1 ?_
    rw [rounds_succ]
    go_wp2_with fail
    go_ret
    exact node_close HE.out ((Below.refl _ _).alloc (Nat.le_refl _) _)
set_option maxRecDepth 100000 in
set_option maxHeartbeats 16000000 in
theorem node_k6 (i : Int) (t : Tk.Src) (keys : List Tk.Src) (kids : List Ox) (A B : Option Addr) (kc c : Nat) (d : Nat) (w : World) :
    Calls Tryz.prog 38 #[.agg #[.int .i64 6, .int .i64 i, .string ⟨t.toArray⟩, .slice A keys.length kc, .slice B kids.length c], .int .i64 d] w (NodePost (nodeE (.mk 6 i t keys kids) d) w) := by
  have hr : ¬ ((Ox.mk 6 i t keys kids).kind < 0 ∨ 7 < (Ox.mk 6 i t keys kids).kind) := by show ¬ ((6 : Int) < 0 ∨ 7 < (6 : Int)); omega
  obtain ⟨S, hS⟩ : ∃ S : ByteArray, S = ⟨t.toArray⟩ := ⟨_, rfl⟩
  have hSt := text_ne hS
  rw [← hS]
  clear hS
  by_cases hd : 12 < d
  · have HE := Lib.hid (node_deep (d := d) hr hd)
    have g12 : (12 : Int) < (d : Int) := by omega
    clear hSt hr hd
    generalize nodeE _ d = E at *
    go_enter Tryz.func38, Tryz.ntmps38
    go_wp2_with fail
    go_ret
    exact node_close HE.out ((Below.refl _ _).alloc (Nat.le_refl _) _)
  have g12 : ¬ (12 : Int) < (d : Int) := by omega
  by_cases hi0 : i = 0
  case neg =>
    have HE := Lib.hid (node_form (o := .mk 6 i t keys kids) (d := d) hr hd (.inl ⟨hi0, by show ¬ ((6 : Int) = 1 ∨ (6 : Int) = 2 ∨ (6 : Int) = 5); omega⟩))
    generalize nodeE _ d = E at *
    have q0 : (i != 0) = true := by simpa using hi0
    clear hSt hr hd hi0
    go_enter Tryz.func38, Tryz.ntmps38
    go_wp2_with fail
    go_ret
    exact node_close HE.out ((Below.refl _ _).alloc (Nat.le_refl _) _)
  subst hi0
  by_cases ht0 : t = []
  case neg =>
    have HE := Lib.hid (node_form (o := .mk 6 0 t keys kids) (d := d) hr hd (.inr (.inl ⟨ht0, by show ¬ ((6 : Int) = 3 ∨ (6 : Int) = 4); omega⟩)))
    generalize nodeE _ d = E at *
    have hne : ¬ S.toList = [] := by rw [hSt]; exact ht0
    have hem : (!S.toList.isEmpty) = true := by rw [hSt]; cases t with | nil => exact absurd rfl ht0 | cons a b => rfl
    clear hSt hr hd ht0
    go_enter Tryz.func38, Tryz.ntmps38
    go_wp2_with fail
    go_ret
    exact node_close HE.out ((Below.refl _ _).alloc (Nat.le_refl _) _)
  subst ht0
  have hem : S.toList = [] := hSt
  have hem2 : (!S.toList.isEmpty) = false := by rw [hem]; rfl
  clear hSt
  have hb : ¬ (((Ox.mk 6 0 [] keys kids).int ≠ 0 ∧ ¬ ((Ox.mk 6 0 [] keys kids).kind = 1 ∨ (Ox.mk 6 0 [] keys kids).kind = 2 ∨ (Ox.mk 6 0 [] keys kids).kind = 5)) ∨ ((Ox.mk 6 0 [] keys kids).text ≠ [] ∧ ¬ ((Ox.mk 6 0 [] keys kids).kind = 3 ∨ (Ox.mk 6 0 [] keys kids).kind = 4)) ∨ (0 < (Ox.mk 6 0 [] keys kids).kids.length ∧ ¬ ((Ox.mk 6 0 [] keys kids).kind = 6 ∨ (Ox.mk 6 0 [] keys kids).kind = 7))) := fun h => h.elim (fun h => h.1 rfl) fun h => h.elim (fun h => h.1 rfl) (fun h => h.2 (by show ((6 : Int) = 6 ∨ (6 : Int) = 7); omega))
  by_cases hkn : 0 < keys.length
  · have HE := Lib.hid (node_keys (o := (Ox.mk 6 0 [] keys kids)) (d := d) hr hd hb (.inr ⟨by show (6 : Int) ≠ 7; omega, hkn⟩))
    have hkb : decide (0 < keys.length) = true := decide_eq_true hkn
    generalize nodeE _ d = E at *
    clear hr hd hb
    by_cases hn0 : 0 < kids.length
    · have hn1 : decide (0 < kids.length) = true := decide_eq_true hn0
      go_enter Tryz.func38, Tryz.ntmps38
      go_wp2_with fail
      go_ret
      exact node_close HE.out ((Below.refl _ _).alloc (Nat.le_refl _) _)
    · have hn1 : decide (0 < kids.length) = false := decide_eq_false hn0
      have hnz : kids.length = 0 := by omega
      have HNz := Lib.hid hnz
      clear hnz
      go_enter Tryz.func38, Tryz.ntmps38
      go_wp2_with fail
      go_ret
      exact node_close HE.out ((Below.refl _ _).alloc (Nat.le_refl _) _)
  have hk : ¬ (((Ox.mk 6 0 [] keys kids).kind = 7 ∧ (Ox.mk 6 0 [] keys kids).keys.length ≠ (Ox.mk 6 0 [] keys kids).kids.length) ∨ ((Ox.mk 6 0 [] keys kids).kind ≠ 7 ∧ 0 < (Ox.mk 6 0 [] keys kids).keys.length)) := fun h => h.elim (fun h => absurd h.1 (by show (6 : Int) ≠ 7; omega)) fun h => hkn h.2
  have hkb : decide (0 < keys.length) = false := decide_eq_false hkn
  obtain rfl : keys = [] := List.eq_nil_of_length_eq_zero (by omega)
  clear hkn
  have hi : ¬ ((Ox.mk 6 0 [] [] kids).kind = 1 ∧ (Ox.mk 6 0 [] [] kids).int ≠ 0 ∧ (Ox.mk 6 0 [] [] kids).int ≠ 1) := fun h => absurd h.1 (by show (6 : Int) ≠ 1; omega)
  by_cases hl : 256 < kids.length
  · have HE := Lib.hid (node_large (o := (Ox.mk 6 0 [] [] kids)) (d := d) hr hd hb hk hi hl)
    have hl1 : (256 : Int) < (kids.length : Int) := by omega
    have hn1 : decide (0 < kids.length) = true := decide_eq_true (by omega)
    have hn0 : 0 < kids.length := by omega
    generalize nodeE _ d = E at *
    clear hr hd hb hk hi hl
    go_enter Tryz.func38, Tryz.ntmps38
    go_wp2_with fail
    go_ret
    exact node_close HE.out ((Below.refl _ _).alloc (Nat.le_refl _) _)
  have hl1 : ¬ (256 : Int) < (kids.length : Int) := by omega
  have HE := Lib.hid (node_rest (o := (Ox.mk 6 0 [] [] kids)) (d := d) hr hd hb hk hi hl)
  generalize nodeE _ d = E at *
  clear hr hd hb hk hi hl
  by_cases hn0 : 0 < kids.length
  · have hn1 : decide (0 < kids.length) = true := decide_eq_true hn0
    go_enter Tryz.func38, Tryz.ntmps38
    go_wp2_with fail
    refine wp_loop_rounds 1 ?_
    rw [rounds_succ]
    go_wp2_with fail
    go_ret
    exact node_close HE.out ((Below.refl _ _).alloc (Nat.le_refl _) _)
  · have hn1 : decide (0 < kids.length) = false := decide_eq_false hn0
    have hnz : kids.length = 0 := by omega
    have HNz := Lib.hid hnz
    clear hnz
    go_enter Tryz.func38, Tryz.ntmps38
    go_wp2_with fail
    refine wp_loop_rounds 1 ?_
    rw [rounds_succ]
    go_wp2_with fail
    go_ret
    exact node_close HE.out ((Below.refl _ _).alloc (Nat.le_refl _) _)
set_option maxRecDepth 100000 in
set_option maxHeartbeats 16000000 in
theorem node_k7 (i : Int) (t : Tk.Src) (keys : List Tk.Src) (kids : List Ox) (A B : Option Addr) (kc c : Nat) (d : Nat) (w : World) (P : Nat → Prop) (hsl : Hid (Sl w P (.slice A keys.length kc) (strs keys))) (hT : Tab10 w) :
    Calls Tryz.prog 38 #[.agg #[.int .i64 7, .int .i64 i, .string ⟨t.toArray⟩, .slice A keys.length kc, .slice B kids.length c], .int .i64 d] w (NodePost (nodeE (.mk 7 i t keys kids) d) w) := by
  have hr : ¬ ((Ox.mk 7 i t keys kids).kind < 0 ∨ 7 < (Ox.mk 7 i t keys kids).kind) := by show ¬ ((7 : Int) < 0 ∨ 7 < (7 : Int)); omega
  obtain ⟨S, hS⟩ : ∃ S : ByteArray, S = ⟨t.toArray⟩ := ⟨_, rfl⟩
  have hSt := text_ne hS
  rw [← hS]
  clear hS
  by_cases hd : 12 < d
  · have HE := Lib.hid (node_deep (d := d) hr hd)
    have g12 : (12 : Int) < (d : Int) := by omega
    clear hSt hr hd
    generalize nodeE _ d = E at *
    go_enter Tryz.func38, Tryz.ntmps38
    go_wp2_with fail
    go_ret
    exact node_close HE.out ((Below.refl _ _).alloc (Nat.le_refl _) _)
  have g12 : ¬ (12 : Int) < (d : Int) := by omega
  by_cases hi0 : i = 0
  case neg =>
    have HE := Lib.hid (node_form (o := .mk 7 i t keys kids) (d := d) hr hd (.inl ⟨hi0, by show ¬ ((7 : Int) = 1 ∨ (7 : Int) = 2 ∨ (7 : Int) = 5); omega⟩))
    generalize nodeE _ d = E at *
    have q0 : (i != 0) = true := by simpa using hi0
    clear hSt hr hd hi0
    go_enter Tryz.func38, Tryz.ntmps38
    go_wp2_with fail
    go_ret
    exact node_close HE.out ((Below.refl _ _).alloc (Nat.le_refl _) _)
  subst hi0
  by_cases ht0 : t = []
  case neg =>
    have HE := Lib.hid (node_form (o := .mk 7 0 t keys kids) (d := d) hr hd (.inr (.inl ⟨ht0, by show ¬ ((7 : Int) = 3 ∨ (7 : Int) = 4); omega⟩)))
    generalize nodeE _ d = E at *
    have hne : ¬ S.toList = [] := by rw [hSt]; exact ht0
    have hem : (!S.toList.isEmpty) = true := by rw [hSt]; cases t with | nil => exact absurd rfl ht0 | cons a b => rfl
    clear hSt hr hd ht0
    go_enter Tryz.func38, Tryz.ntmps38
    go_wp2_with fail
    go_ret
    exact node_close HE.out ((Below.refl _ _).alloc (Nat.le_refl _) _)
  subst ht0
  have hem : S.toList = [] := hSt
  have hem2 : (!S.toList.isEmpty) = false := by rw [hem]; rfl
  clear hSt
  have hb : ¬ (((Ox.mk 7 0 [] keys kids).int ≠ 0 ∧ ¬ ((Ox.mk 7 0 [] keys kids).kind = 1 ∨ (Ox.mk 7 0 [] keys kids).kind = 2 ∨ (Ox.mk 7 0 [] keys kids).kind = 5)) ∨ ((Ox.mk 7 0 [] keys kids).text ≠ [] ∧ ¬ ((Ox.mk 7 0 [] keys kids).kind = 3 ∨ (Ox.mk 7 0 [] keys kids).kind = 4)) ∨ (0 < (Ox.mk 7 0 [] keys kids).kids.length ∧ ¬ ((Ox.mk 7 0 [] keys kids).kind = 6 ∨ (Ox.mk 7 0 [] keys kids).kind = 7))) := fun h => h.elim (fun h => h.1 rfl) fun h => h.elim (fun h => h.1 rfl) (fun h => h.2 (by show ((7 : Int) = 6 ∨ (7 : Int) = 7); omega))
  by_cases hkn : keys.length ≠ kids.length
  · have HE := Lib.hid (node_keys (o := (Ox.mk 7 0 [] keys kids)) (d := d) hr hd hb (.inl ⟨rfl, hkn⟩))
    have hkb : ((keys.length : Int) != (kids.length : Int)) = true := by rw [bne_iff_ne]; omega
    generalize nodeE _ d = E at *
    clear hr hd hb hkn
    by_cases hn0 : 0 < kids.length
    · have hn1 : decide (0 < kids.length) = true := decide_eq_true hn0
      go_enter Tryz.func38, Tryz.ntmps38
      go_wp2_with fail
      go_ret
      exact node_close HE.out ((Below.refl _ _).alloc (Nat.le_refl _) _)
    · have hn1 : decide (0 < kids.length) = false := decide_eq_false hn0
      have hnz : kids.length = 0 := by omega
      have HNz := Lib.hid hnz
      clear hnz
      go_enter Tryz.func38, Tryz.ntmps38
      go_wp2_with fail
      go_ret
      exact node_close HE.out ((Below.refl _ _).alloc (Nat.le_refl _) _)
  have hk : ¬ (((Ox.mk 7 0 [] keys kids).kind = 7 ∧ (Ox.mk 7 0 [] keys kids).keys.length ≠ (Ox.mk 7 0 [] keys kids).kids.length) ∨ ((Ox.mk 7 0 [] keys kids).kind ≠ 7 ∧ 0 < (Ox.mk 7 0 [] keys kids).keys.length)) := fun h => h.elim (fun h => hkn h.2) fun h => h.1 rfl
  have hkb : ((keys.length : Int) != (kids.length : Int)) = false := by rw [bne_eq_false_iff_eq]; omega
  have hkq : keys.length = kids.length := by omega
  have HKq := Lib.hid hkq
  clear hkn
  have hi : ¬ ((Ox.mk 7 0 [] keys kids).kind = 1 ∧ (Ox.mk 7 0 [] keys kids).int ≠ 0 ∧ (Ox.mk 7 0 [] keys kids).int ≠ 1) := fun h => absurd h.1 (by show (7 : Int) ≠ 1; omega)
  by_cases hl : 256 < kids.length
  · have HE := Lib.hid (node_large (o := (Ox.mk 7 0 [] keys kids)) (d := d) hr hd hb hk hi hl)
    have hl1 : (256 : Int) < (kids.length : Int) := by omega
    have hn1 : decide (0 < kids.length) = true := decide_eq_true (by omega)
    have hn0 : 0 < kids.length := by omega
    generalize nodeE _ d = E at *
    clear hr hd hb hk hi hl
    go_enter Tryz.func38, Tryz.ntmps38
    go_wp2_with fail
    go_ret
    exact node_close HE.out ((Below.refl _ _).alloc (Nat.le_refl _) _)
  have hl1 : ¬ (256 : Int) < (kids.length : Int) := by omega
  by_cases hn0 : 0 < kids.length
  · have hn1 : decide (0 < kids.length) = true := decide_eq_true hn0
    have HE := Lib.hid (node_rest (o := .mk 7 0 [] keys kids) (d := d) hr hd hb hk hi hl)
    dsimp only [Ox.keys] at HE
    have HSl := hsl
    have HT := Lib.hid hT
    have hkl2 : keys.length ≤ 256 := by omega
    have HCell : Hid (∀ W, Below w.heap.size w W → ∀ (j : Nat) (hj : j < keys.length), ∃ b off, A = some ⟨b, off, none⟩ ∧ b < W.heap.size ∧ ∀ m (hm : m < keys.length), W.cell? ⟨b, off + m, none⟩ = some (.string ⟨(keys[m]).toArray⟩)) := fun W hW j hj => by
      obtain ⟨b, off, e, h1, h2⟩ := HSl.out.plainA (by simp [strs]; omega)
      exact ⟨b, off, e, Nat.lt_of_lt_of_le h1 hW.size, fun m hm => (hW.cell (p := ⟨b, off + m, none⟩) h1).trans (h2 m _ (by simp [strs, hm]))⟩
    have HKr : Hid (keysE none keys = keysE (if h : 0 < 0 ∧ 0 - 1 < keys.length then some (keys[0 - 1]'h.2) else none) (keys.drop 0)) := by unfold Hid; rw [dif_neg (by omega), List.drop_zero]
    generalize hNE : nodeE (.mk 7 0 [] keys kids) d = E at *
    generalize hKE : keysE none keys = KE at *
    have hb0 := Blk.new w 25 #[.int .i64 7, .int .i64 0, .string S, .slice A keys.length kc, .slice B kids.length c]
    have hl0 := (Below.refl w.heap.size w).alloc (Nat.le_refl _) (.cells #[.int .i64 7, .int .i64 0, .string S, .slice A keys.length kc, .slice B kids.length c] 25)
    have HB0 := Lib.hid hb0
    have HL0 := Lib.hid hl0
    clear hNE hKE hb0 hl0 hr hd hb hk hi hl hT hsl HSl hkq
    go_enter Tryz.func38, Tryz.ntmps38
    go_wp2_with fail
    generalize w.alloc (.cells #[.int .i64 7, .int .i64 0, .string S, .slice A keys.length kc, .slice B kids.length c] 25) = w1 at *
    go_loopw [120] (fun v wq => True ∧ ∃ j : Nat, v = .int .i64 j ∧ j ≤ keys.length ∧ KE = keysE (if h : 0 < j ∧ j - 1 < keys.length then some (keys[j - 1]'h.2) else none) (keys.drop j) ∧ Blk wq w.heap.size 25 #[.int .i64 7, .int .i64 0, .string S, .slice A keys.length kc, .slice B kids.length c] ∧ Below w.heap.size w wq) (fun v _ => keys.length - (intOf v).toNat)
    case atStart => exact ⟨trivial, 0, rfl, Nat.zero_le _, HKr.out, HB0.out, HL0.out⟩
    case round =>
      obtain ⟨-, j, rfl, hj, hke, hbk, hbl⟩ := hrel
      have HKe := Lib.hid hke
      have HBk := Lib.hid hbk
      have HBl := Lib.hid hbl
      obtain ⟨x0, x1, x2, x3, x4⟩ := b5n_cells hbk
      have hbkl := hbk.lt
      clear hke hbk
      by_cases hlt : j < keys.length
      · obtain ⟨b, off, rfl, hbb, hcell⟩ := HCell.out wr hbl j hlt
        have hc0 := hcell j hlt
        have hlt1 : (j : Int) < (keys.length : Int) := by omega
        have HSn : Hid (KE = if nameE keys[j] ≠ 0 then nameE keys[j] else if (0 < j ∧ ltB (keys[j - 1]'(by omega)) keys[j] = false) then 4 else keysE (some keys[j]) (keys.drop (j + 1))) := by
          have := HKe.out
          rw [List.drop_eq_getElem_cons hlt] at this
          unfold Hid
          by_cases hj0 : 0 < j
          · rw [dif_pos ⟨hj0, by omega⟩, keys_some] at this
            rw [this]
            simp only [hj0, true_and]
          · rw [dif_neg (fun h => hj0 h.1), keys_none] at this
            rw [this]
            simp only [hj0, false_and, if_false]
        have hpc : 0 < j → wr.cell? ⟨b, off + (j - 1), none⟩ = some (.string ⟨(keys[j - 1]'(by omega)).toArray⟩) := fun _ => hcell (j - 1) (by omega)
        by_cases hne : nameE keys[j] = 0
        · obtain ⟨v1, v2, v3⟩ := nameE_zero hne
          have HPr := Lib.hid fun W (hW : Below w.heap.size w W) => print_ok ⟨2, 0, keys[j]⟩ (.name _ v1 v2 v3) 0 0 W (Tab10.later HT.out hW)
          unfold tokV at HPr
          dsimp only at HPr
          have HSn2 : Hid (KE = if (0 < j ∧ ltB (keys[j - 1]'(by omega)) keys[j] = false) then 4 else keysE (some keys[j]) (keys.drop (j + 1))) := by have := HSn.out; rw [if_neg (by rw [hne]; decide)] at this; exact this
          clear v1 v2 v3 hne
          obtain ⟨V, hV⟩ : ∃ V : ByteArray, V = ⟨(keys[j]).toArray⟩ := ⟨_, rfl⟩
          rw [← hV] at hc0 HPr
          have HV := Lib.hid hV
          generalize (prTok ⟨2, 0, keys[j]⟩) = PT1 at *
          clear hV hcell
          go_wp2_with fail
          refine (HPr.out _ hbl).mono ?_
          rintro e w3 ⟨rfl, hb3⟩
          have hc3 := (hb3.cell (p := ⟨b, off + j, none⟩) hbb).trans hc0
          have hbk3 := HBk.out.below hb3 hbkl
          have HBk3 := Lib.hid hbk3
          have HBl3 := Lib.hid (hbl.trans (hb3.mono hbl.size))
          obtain ⟨y0, y1, y2, y3, y4⟩ := b5n_cells hbk3
          by_cases hj0 : 0 < j
          · have hp := (hb3.cell (p := ⟨b, off + (j - 1), none⟩) hbb).trans (hpc hj0)
            have hjj : IntKind.i64.wrap ((j : Int) - 1) = ((j - 1 : Nat) : Int) := by rw [IntWalk.i64_in _ (by omega)]; omega
            have hj1 : (0 : Int) < (j : Int) := by omega
            have hj2 : ((j : Int) - 1) = ((j - 1 : Nat) : Int) := by omega
            have hj3 : (1 : Int) ≤ (j : Int) := by omega
            have hjt : ((j : Int) - 1).toNat = j - 1 := by omega
            have hj4 : ((j : Int) - 1) < (keys.length : Int) := by omega
            have HLs := lss_ltB (keys[j - 1]'(by omega)) keys[j]
            obtain ⟨U, hU⟩ : ∃ U : ByteArray, U = ⟨(keys[j - 1]'(by omega)).toArray⟩ := ⟨_, rfl⟩
            rw [← hU] at hp
            have hls : Op.bytesLess U.toList V.toList = ltB (keys[j - 1]'(by omega)) keys[j] := by rw [Lib.toList_data, Lib.toList_data, hU, HV.out]; exact HLs
            clear HLs hU hpc hb3 hc0
            cases hq : ltB (keys[j - 1]'(by omega)) keys[j] with
            | false =>
              rw [hq] at hls
              have HK4 : Hid (KE = 4) := by have := HSn2.out; rw [if_pos ⟨hj0, hq⟩] at this; exact this
              clear hq hj0 hj2 hjt
              go_wp2_with fail
              go_ret
              exact node_close (HE.out.trans HK4.out) HBl3.out
            | true =>
              rw [hq] at hls
              have HK4 : Hid (KE = keysE (some keys[j]) (keys.drop (j + 1))) := by have := HSn2.out; rw [if_neg (by rw [hq]; simp)] at this; exact this
              clear hq hj0 hj2 hjt
              go_wp2_with fail
              exact ⟨⟨trivial, j + 1, rfl, by omega, by rw [dif_pos ⟨by omega, by omega⟩]; exact HK4.out, HBk3.out, HBl3.out⟩, by simp [intOf]; omega⟩
          · have hjz : j = 0 := by omega
            have HK4 : Hid (KE = keysE (some keys[j]) (keys.drop (j + 1))) := by have := HSn2.out; rw [if_neg (fun h => hj0 h.1)] at this; exact this
            have hj1 : ¬ (0 : Int) < (j : Int) := by omega
            have hjd : decide ((0 : Int) < (j : Int)) = false := decide_eq_false hj1
            have hjd2 : decide (0 < j) = false := decide_eq_false hj0
            clear hjz hpc hb3 hc0
            go_wp2_with fail
            exact ⟨⟨trivial, j + 1, rfl, by omega, by rw [dif_pos ⟨by omega, by omega⟩]; exact HK4.out, HBk3.out, HBl3.out⟩, by simp [intOf]; omega⟩
        · have HPr := Lib.hid fun W => print_bad ⟨2, 0, keys[j]⟩ (.name _) hne 0 0 W
          unfold tokV at HPr
          dsimp only at HPr
          have HK4 : Hid (KE = tokE ⟨2, 0, keys[j]⟩) := by have := HSn.out; rw [if_pos hne] at this; exact this
          have hne2 : (tokE ⟨2, 0, keys[j]⟩ != 0) = true := by rw [bne_iff_ne]; exact hne
          obtain ⟨V, hV⟩ : ∃ V : ByteArray, V = ⟨(keys[j]).toArray⟩ := ⟨_, rfl⟩
          rw [← hV] at hc0 HPr
          generalize tokE ⟨2, 0, keys[j]⟩ = TE at *
          clear hV hcell hne hpc
          go_wp2_with fail
          refine (HPr.out _).mono ?_
          rintro e w3 ⟨rfl, hb3⟩
          have HBl3 := Lib.hid (hbl.trans (hb3.mono hbl.size))
          clear hb3
          go_wp2_with fail
          go_ret
          exact node_close (HE.out.trans HK4.out) HBl3.out
      · have hjj : j = keys.length := by omega
        have HK4 : Hid (KE = 0) := by have := HKe.out; rw [List.drop_eq_nil_of_le (by omega)] at this; exact this
        have hlt1 : ¬ (j : Int) < (keys.length : Int) := by omega
        clear hjj
        go_wp2_with fail
        go_ret
        exact node_close (HE.out.trans HK4.out) HBl.out
  · have hn1 : decide (0 < kids.length) = false := decide_eq_false hn0
    have hnz : kids.length = 0 := by omega
    have HNz := Lib.hid hnz
    clear hnz
    have HE := Lib.hid (node_rest (o := .mk 7 0 [] keys kids) (d := d) hr hd hb hk hi hl)
    dsimp only [Ox.keys] at HE
    have HSl := hsl
    have HT := Lib.hid hT
    have hkl2 : keys.length ≤ 256 := by omega
    have HCell : Hid (∀ W, Below w.heap.size w W → ∀ (j : Nat) (hj : j < keys.length), ∃ b off, A = some ⟨b, off, none⟩ ∧ b < W.heap.size ∧ ∀ m (hm : m < keys.length), W.cell? ⟨b, off + m, none⟩ = some (.string ⟨(keys[m]).toArray⟩)) := fun W hW j hj => by
      obtain ⟨b, off, e, h1, h2⟩ := HSl.out.plainA (by simp [strs]; omega)
      exact ⟨b, off, e, Nat.lt_of_lt_of_le h1 hW.size, fun m hm => (hW.cell (p := ⟨b, off + m, none⟩) h1).trans (h2 m _ (by simp [strs, hm]))⟩
    have HKr : Hid (keysE none keys = keysE (if h : 0 < 0 ∧ 0 - 1 < keys.length then some (keys[0 - 1]'h.2) else none) (keys.drop 0)) := by unfold Hid; rw [dif_neg (by omega), List.drop_zero]
    generalize hNE : nodeE (.mk 7 0 [] keys kids) d = E at *
    generalize hKE : keysE none keys = KE at *
    have hb0 := Blk.new w 25 #[.int .i64 7, .int .i64 0, .string S, .slice A keys.length kc, .slice B kids.length c]
    have hl0 := (Below.refl w.heap.size w).alloc (Nat.le_refl _) (.cells #[.int .i64 7, .int .i64 0, .string S, .slice A keys.length kc, .slice B kids.length c] 25)
    have HB0 := Lib.hid hb0
    have HL0 := Lib.hid hl0
    clear hNE hKE hb0 hl0 hr hd hb hk hi hl hT hsl HSl hkq
    go_enter Tryz.func38, Tryz.ntmps38
    go_wp2_with fail
    generalize w.alloc (.cells #[.int .i64 7, .int .i64 0, .string S, .slice A keys.length kc, .slice B kids.length c] 25) = w1 at *
    go_loopw [120] (fun v wq => True ∧ ∃ j : Nat, v = .int .i64 j ∧ j ≤ keys.length ∧ KE = keysE (if h : 0 < j ∧ j - 1 < keys.length then some (keys[j - 1]'h.2) else none) (keys.drop j) ∧ Blk wq w.heap.size 25 #[.int .i64 7, .int .i64 0, .string S, .slice A keys.length kc, .slice B kids.length c] ∧ Below w.heap.size w wq) (fun v _ => keys.length - (intOf v).toNat)
    case atStart => exact ⟨trivial, 0, rfl, Nat.zero_le _, HKr.out, HB0.out, HL0.out⟩
    case round =>
      obtain ⟨-, j, rfl, hj, hke, hbk, hbl⟩ := hrel
      have HKe := Lib.hid hke
      have HBk := Lib.hid hbk
      have HBl := Lib.hid hbl
      obtain ⟨x0, x1, x2, x3, x4⟩ := b5n_cells hbk
      have hbkl := hbk.lt
      clear hke hbk
      by_cases hlt : j < keys.length
      · obtain ⟨b, off, rfl, hbb, hcell⟩ := HCell.out wr hbl j hlt
        have hc0 := hcell j hlt
        have hlt1 : (j : Int) < (keys.length : Int) := by omega
        have HSn : Hid (KE = if nameE keys[j] ≠ 0 then nameE keys[j] else if (0 < j ∧ ltB (keys[j - 1]'(by omega)) keys[j] = false) then 4 else keysE (some keys[j]) (keys.drop (j + 1))) := by
          have := HKe.out
          rw [List.drop_eq_getElem_cons hlt] at this
          unfold Hid
          by_cases hj0 : 0 < j
          · rw [dif_pos ⟨hj0, by omega⟩, keys_some] at this
            rw [this]
            simp only [hj0, true_and]
          · rw [dif_neg (fun h => hj0 h.1), keys_none] at this
            rw [this]
            simp only [hj0, false_and, if_false]
        have hpc : 0 < j → wr.cell? ⟨b, off + (j - 1), none⟩ = some (.string ⟨(keys[j - 1]'(by omega)).toArray⟩) := fun _ => hcell (j - 1) (by omega)
        by_cases hne : nameE keys[j] = 0
        · obtain ⟨v1, v2, v3⟩ := nameE_zero hne
          have HPr := Lib.hid fun W (hW : Below w.heap.size w W) => print_ok ⟨2, 0, keys[j]⟩ (.name _ v1 v2 v3) 0 0 W (Tab10.later HT.out hW)
          unfold tokV at HPr
          dsimp only at HPr
          have HSn2 : Hid (KE = if (0 < j ∧ ltB (keys[j - 1]'(by omega)) keys[j] = false) then 4 else keysE (some keys[j]) (keys.drop (j + 1))) := by have := HSn.out; rw [if_neg (by rw [hne]; decide)] at this; exact this
          clear v1 v2 v3 hne
          obtain ⟨V, hV⟩ : ∃ V : ByteArray, V = ⟨(keys[j]).toArray⟩ := ⟨_, rfl⟩
          rw [← hV] at hc0 HPr
          have HV := Lib.hid hV
          generalize (prTok ⟨2, 0, keys[j]⟩) = PT1 at *
          clear hV hcell
          go_wp2_with fail
          refine (HPr.out _ hbl).mono ?_
          rintro e w3 ⟨rfl, hb3⟩
          have hc3 := (hb3.cell (p := ⟨b, off + j, none⟩) hbb).trans hc0
          have hbk3 := HBk.out.below hb3 hbkl
          have HBk3 := Lib.hid hbk3
          have HBl3 := Lib.hid (hbl.trans (hb3.mono hbl.size))
          obtain ⟨y0, y1, y2, y3, y4⟩ := b5n_cells hbk3
          by_cases hj0 : 0 < j
          · have hp := (hb3.cell (p := ⟨b, off + (j - 1), none⟩) hbb).trans (hpc hj0)
            have hjj : IntKind.i64.wrap ((j : Int) - 1) = ((j - 1 : Nat) : Int) := by rw [IntWalk.i64_in _ (by omega)]; omega
            have hj1 : (0 : Int) < (j : Int) := by omega
            have hj2 : ((j : Int) - 1) = ((j - 1 : Nat) : Int) := by omega
            have hj3 : (1 : Int) ≤ (j : Int) := by omega
            have hjt : ((j : Int) - 1).toNat = j - 1 := by omega
            have hj4 : ((j : Int) - 1) < (keys.length : Int) := by omega
            have HLs := lss_ltB (keys[j - 1]'(by omega)) keys[j]
            obtain ⟨U, hU⟩ : ∃ U : ByteArray, U = ⟨(keys[j - 1]'(by omega)).toArray⟩ := ⟨_, rfl⟩
            rw [← hU] at hp
            have hls : Op.bytesLess U.toList V.toList = ltB (keys[j - 1]'(by omega)) keys[j] := by rw [Lib.toList_data, Lib.toList_data, hU, HV.out]; exact HLs
            clear HLs hU hpc hb3 hc0
            cases hq : ltB (keys[j - 1]'(by omega)) keys[j] with
            | false =>
              rw [hq] at hls
              have HK4 : Hid (KE = 4) := by have := HSn2.out; rw [if_pos ⟨hj0, hq⟩] at this; exact this
              clear hq hj0 hj2 hjt
              go_wp2_with fail
              go_ret
              exact node_close (HE.out.trans HK4.out) HBl3.out
            | true =>
              rw [hq] at hls
              have HK4 : Hid (KE = keysE (some keys[j]) (keys.drop (j + 1))) := by have := HSn2.out; rw [if_neg (by rw [hq]; simp)] at this; exact this
              clear hq hj0 hj2 hjt
              go_wp2_with fail
              exact ⟨⟨trivial, j + 1, rfl, by omega, by rw [dif_pos ⟨by omega, by omega⟩]; exact HK4.out, HBk3.out, HBl3.out⟩, by simp [intOf]; omega⟩
          · have hjz : j = 0 := by omega
            have HK4 : Hid (KE = keysE (some keys[j]) (keys.drop (j + 1))) := by have := HSn2.out; rw [if_neg (fun h => hj0 h.1)] at this; exact this
            have hj1 : ¬ (0 : Int) < (j : Int) := by omega
            have hjd : decide ((0 : Int) < (j : Int)) = false := decide_eq_false hj1
            have hjd2 : decide (0 < j) = false := decide_eq_false hj0
            clear hjz hpc hb3 hc0
            go_wp2_with fail
            exact ⟨⟨trivial, j + 1, rfl, by omega, by rw [dif_pos ⟨by omega, by omega⟩]; exact HK4.out, HBk3.out, HBl3.out⟩, by simp [intOf]; omega⟩
        · have HPr := Lib.hid fun W => print_bad ⟨2, 0, keys[j]⟩ (.name _) hne 0 0 W
          unfold tokV at HPr
          dsimp only at HPr
          have HK4 : Hid (KE = tokE ⟨2, 0, keys[j]⟩) := by have := HSn.out; rw [if_pos hne] at this; exact this
          have hne2 : (tokE ⟨2, 0, keys[j]⟩ != 0) = true := by rw [bne_iff_ne]; exact hne
          obtain ⟨V, hV⟩ : ∃ V : ByteArray, V = ⟨(keys[j]).toArray⟩ := ⟨_, rfl⟩
          rw [← hV] at hc0 HPr
          generalize tokE ⟨2, 0, keys[j]⟩ = TE at *
          clear hV hcell hne hpc
          go_wp2_with fail
          refine (HPr.out _).mono ?_
          rintro e w3 ⟨rfl, hb3⟩
          have HBl3 := Lib.hid (hbl.trans (hb3.mono hbl.size))
          clear hb3
          go_wp2_with fail
          go_ret
          exact node_close (HE.out.trans HK4.out) HBl3.out
      · have hjj : j = keys.length := by omega
        have HK4 : Hid (KE = 0) := by have := HKe.out; rw [List.drop_eq_nil_of_le (by omega)] at this; exact this
        have hlt1 : ¬ (j : Int) < (keys.length : Int) := by omega
        clear hjj
        go_wp2_with fail
        go_ret
        exact node_close (HE.out.trans HK4.out) HBl.out
set_option maxRecDepth 100000 in
set_option maxHeartbeats 16000000 in
theorem node_ko (k i : Int) (S : ByteArray) (E : Int) (A B : Option Addr) (kn kc n c : Nat) (d : Nat) (w : World) (hk : k < 0 ∨ 7 < k) (HE : Hid (E = 14)) :
    Calls Tryz.prog 38 #[.agg #[.int .i64 k, .int .i64 i, .string S, .slice A kn kc, .slice B n c], .int .i64 d] w (NodePost E w) := by
  have q1 : (k == 1) = false := by rw [beq_eq_false_iff_ne]; omega
  have q2 : (k == 2) = false := by rw [beq_eq_false_iff_ne]; omega
  have q3 : (k == 3) = false := by rw [beq_eq_false_iff_ne]; omega
  have q4 : (k == 4) = false := by rw [beq_eq_false_iff_ne]; omega
  have q5 : (k == 5) = false := by rw [beq_eq_false_iff_ne]; omega
  have q6 : (k == 6) = false := by rw [beq_eq_false_iff_ne]; omega
  have q7 : (k == 7) = false := by rw [beq_eq_false_iff_ne]; omega
  rcases hk with hk | hk
  · have d1 : decide (k < 0) = true := decide_eq_true hk
    go_enter Tryz.func38, Tryz.ntmps38
    go_wp2_with fail
    go_ret
    exact node_close HE.out ((Below.refl _ _).alloc (Nat.le_refl _) _)
  · have d0 : ¬ k < 0 := by omega
    have d1 : decide (k < 0) = false := decide_eq_false d0
    have d2 : decide (7 < k) = true := decide_eq_true hk
    go_enter Tryz.func38, Tryz.ntmps38
    go_wp2_with fail
    go_ret
    exact node_close HE.out ((Below.refl _ _).alloc (Nat.le_refl _) _)
theorem node_any (P : Nat → Prop) (v : V5) (o : Ox) (d : Nat) (w : World) (h : ObjV P w v o) (hT : Tab10 w) : Calls Tryz.prog 38 #[v.val, .int .i64 d] w (NodePost (nodeE o d) w) := by
  obtain ⟨kv, dv, vs, rfl, h1, h2, -, -⟩ := h.open_
  obtain ⟨A, ck, rfl⟩ := h1.form
  obtain ⟨B, cd, rfl⟩ := h2.form
  have HSl := Lib.hid h1
  obtain ⟨k, i, t, keys, kids⟩ := o
  unfold V5.val
  dsimp only [Ox.kind, Ox.int, Ox.text, Ox.keys, Ox.kids] at *
  have hsl : (strs keys).length = keys.length := by simp [strs]
  rw [hsl] at HSl ⊢
  by_cases hk : k < 0 ∨ 7 < k
  · exact node_ko k i _ _ A B keys.length ck kids.length cd d w hk (Lib.hid (node_out hk))
  · have hc : k = 0 ∨ k = 1 ∨ k = 2 ∨ k = 3 ∨ k = 4 ∨ k = 5 ∨ k = 6 ∨ k = 7 := by omega
    rcases hc with rfl | rfl | rfl | rfl | rfl | rfl | rfl | rfl
    · exact node_k0 i t keys kids A B ck cd d w
    · exact node_k1 i t keys kids A B ck cd d w
    · exact node_k2 i t keys kids A B ck cd d w
    · exact node_k3 i t keys kids A B ck cd d w
    · exact node_k4 i t keys kids A B ck cd d w
    · exact node_k5 i t keys kids A B ck cd d w
    · exact node_k6 i t keys kids A B ck cd d w
    · exact node_k7 i t keys kids A B ck cd d w P HSl hT
end Go.Proofs.YthbdhijkdldmoaaGreatDoor
