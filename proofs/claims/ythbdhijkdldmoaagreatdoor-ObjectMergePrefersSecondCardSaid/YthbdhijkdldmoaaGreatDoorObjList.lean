/- The parser's panic. The walk of advance. The walk of more. The walk of list. -/
import Derived.Test.YthbdhijkdldmoaaGreatDoorProg
import Derived.Test.YthbdhijkdldmoaaGreatDoorKit
import Derived.Test.YthbdhijkdldmoaaGreatDoorObjMem
import Derived.Test.YthbdhijkdldmoaaGreatDoorTokNx
import Derived.Test.YthbdhijkdldmoaaGreatDoorTokSmall
import Derived.RegionTactic
import Derived.BigRegion
import Derived.Deep.RegionHeld3
import Derived.Test.YthbdhijkdldmoaaGreatDoorTailHeld
namespace Go.Proofs.YthbdhijkdldmoaaGreatDoor
open Go.RowKit Tk Ob
/-- A panic of the parser: a place and an error. -/
def failV (a c : Int) : PanicEntry := { v := .iface 51 (.agg #[.int .i64 a, .int .i64 c]), recovered := false }
def PanE (e : Ending) : Prop := ∃ a c, c ≠ 0 ∧ e = .panicked [failV a c]
set_option maxHeartbeats 400000 in
theorem fail_any (a c : Int) (w : World) : Calls Tryz.prog 25 #[.int .i64 a, .int .i64 c] w fun e w' => e = .panicked [failV a c] ∧ w' = w := by
  go_enter Tryz.func25, Tryz.ntmps25
  go_wp2
  exact ⟨rfl, rfl, rfl⟩
end Go.Proofs.YthbdhijkdldmoaaGreatDoor
namespace Go.Proofs.YthbdhijkdldmoaaGreatDoor
open Go.RowKit Tk Ob
/-- A parser in block c: its source, its current token, whose end is at p. -/
def Ps (w : World) (c : Nat) (S : ByteArray) (k i : Int) (t : ByteArray) (a : Int) (p : Int) : Prop := Blk w c 55 #[.string S, .int .i64 k, .int .i64 i, .string t, .int .i64 a, .int .i64 p]
/-- A parser whose current token is b, with l left behind it. -/
def PsAt (w : World) (c : Nat) (S : ByteArray) (b : BTok) (l : Tk.Src) : Prop :=
  ∃ (i : Int) (t : ByteArray) (a p : Int), Ps w c S b.kind i t a p ∧ (b.kind ≠ 0 → VTok b ∧ i = b.int ∧ t = ⟨b.text.toArray⟩ ∧ ∃ q : Nat, p = q ∧ q ≤ S.size ∧ (bys S).drop q = l)
/-- What a call on a parser leaves as it was. -/
abbrev FrP (c : Nat) (w w' : World) : Prop := FrS w.heap.size (fun k => k = c) w w'
theorem nxP_end {l : Tk.Src} (h : l.drop (skipN false l) = []) : nxP l = some (⟨0, 0, []⟩, []) := by unfold nxP; rw [h]
theorem nxP_bad {l : Tk.Src} {x : UInt8} {r : Tk.Src} {e : Int} (h : l.drop (skipN false l) = x :: r) (ho : one (x :: r) = .error e) : nxP l = none := by unfold nxP; rw [h]; dsimp only; rw [ho]
theorem nxP_ok {l : Tk.Src} {x : UInt8} {r : Tk.Src} {b : BTok} {n : Nat} (h : l.drop (skipN false l) = x :: r) (ho : one (x :: r) = .ok (b, n)) : nxP l = some (b, l.drop (skipN false l + n)) := by
  unfold nxP; rw [h]; dsimp only; rw [ho]; dsimp only; rw [← h, List.drop_drop]
theorem ps_cells {w : World} {c : Nat} {S : ByteArray} {k i : Int} {t : ByteArray} {a p : Int} (h : Ps w c S k i t a p) : w.cell? ⟨c, 0, none⟩ = some (.string S) ∧ w.cell? ⟨c, 1, none⟩ = some (.int .i64 k) ∧ w.cell? ⟨c, 2, none⟩ = some (.int .i64 i) ∧ w.cell? ⟨c, 3, none⟩ = some (.string t) ∧ w.cell? ⟨c, 4, none⟩ = some (.int .i64 a) ∧ w.cell? ⟨c, 5, none⟩ = some (.int .i64 p) := by
  refine ⟨?_, ?_, ?_, ?_, ?_, ?_⟩
  · simpa using Blk.cell h 0
  · simpa using Blk.cell h 1
  · simpa using Blk.cell h 2
  · simpa using Blk.cell h 3
  · simpa using Blk.cell h 4
  · simpa using Blk.cell h 5
theorem ps_put {w : World} {c : Nat} {S : ByteArray} {k i : Int} {t : ByteArray} {a p : Int} (h : Ps w c S k i t a p) (k' i' : Int) (t' : ByteArray) (a' p' : Int) :
    Ps (((((w.setCell ⟨c, 1, none⟩ (.int .i64 k')).setCell ⟨c, 2, none⟩ (.int .i64 i')).setCell ⟨c, 3, none⟩ (.string t')).setCell ⟨c, 4, none⟩ (.int .i64 a')).setCell ⟨c, 5, none⟩ (.int .i64 p')) c S k' i' t' a' p' := by
  have := ((((Blk.put h 1 (.int .i64 k')).put 2 (.int .i64 i')).put 3 (.string t')).put 4 (.int .i64 a')).put 5 (.int .i64 p')
  simpa [Ps] using this
theorem ps_frp {w w' : World} {c : Nat} (h : FrP c w w') (u1 u2 u3 u4 u5 : Value) : FrP c w (((((w'.setCell ⟨c, 1, none⟩ u1).setCell ⟨c, 2, none⟩ u2).setCell ⟨c, 3, none⟩ u3).setCell ⟨c, 4, none⟩ u4).setCell ⟨c, 5, none⟩ u5) :=
  ((((FrS.put h (p := ⟨c, 1, none⟩) (.inr rfl) u1).put (p := ⟨c, 2, none⟩) (.inr rfl) u2).put (p := ⟨c, 3, none⟩) (.inr rfl) u3).put (p := ⟨c, 4, none⟩) (.inr rfl) u4).put (p := ⟨c, 5, none⟩) (.inr rfl) u5
def AdvPost (S : ByteArray) (c : Nat) (q : Option (BTok × Tk.Src)) (w : World) (e : Ending) (w' : World) : Prop :=
  FrP c w w' ∧ match q with
    | none => PanE e
    | some (b, l') => e = .returned (.tuple #[]) ∧ PsAt w' c S b l'
theorem adv_bad {p : Nat} {l : Tk.Src} {k i : Int} {t : ByteArray} {a en f er : Int} (h : NxRel p l k i t a en f er) (he : er ≠ 0) : nxP l = none := by
  rcases h with ⟨_, _, h⟩ | ⟨x, r, h1, h2, _⟩ | ⟨x, r, b, n, _, _, _, _, _, _, _, h⟩
  · exact absurd h he
  · exact nxP_bad h1 h2
  · exact absurd h he
theorem adv_ok {S : ByteArray} {p : Nat} (hp : p ≤ S.size) {c : Nat} {k i : Int} {t : ByteArray} {a en f : Int} (h : NxRel p ((bys S).drop p) k i t a en f 0) :
    ∃ b l', nxP ((bys S).drop p) = some (b, l') ∧ ∀ w', Ps w' c S k i t a en → PsAt w' c S b l' := by
  rcases h with ⟨h1, h2, _⟩ | ⟨x, r, h1, h2, h3, _⟩ | ⟨x, r, b, n, h1, h2, rfl, rfl, rfl, rfl, rfl, _⟩
  · subst h2
    exact ⟨_, _, nxP_end h1, fun w' h => ⟨i, t, a, en, h, fun h0 => absurd rfl h0⟩⟩
  · exact absurd rfl h3
  · refine ⟨b, _, nxP_ok h1 h2, fun w' h => ⟨_, _, _, _, h, fun h0 => ⟨(one_valid h2).1, rfl, rfl, p + skipN false ((bys S).drop p) + n, by omega, ?_, by rw [List.drop_drop]; congr 1; omega⟩⟩⟩
    obtain ⟨u, v, hw⟩ := one_own h2
    have e1 := congrArg List.length hw.eq
    have e2 := drop_len h1
    rw [List.length_append] at e1
    have e3 := hw.len
    rw [List.length_drop, bys_len] at e2
    omega
theorem adv_close {S : ByteArray} {c : Nat} {k i : Int} {t : ByteArray} {a en : Int} {w w' : World} {q : Option (BTok × Tk.Src)} (h : ∃ b l', q = some (b, l') ∧ ∀ w', Ps w' c S k i t a en → PsAt w' c S b l') (hf : FrP c w w') (hp : Ps w' c S k i t a en) : AdvPost S c q w (.returned (.tuple #[])) w' := by
  obtain ⟨b, l', h1, h2⟩ := h
  refine ⟨hf, ?_⟩
  rw [h1]
  exact ⟨rfl, h2 _ hp⟩
set_option maxRecDepth 100000 in
set_option maxHeartbeats 4000000 in
theorem adv_core (S : ByteArray) (c : Nat) (k i : Int) (t : ByteArray) (a : Int) (p : Nat) (w : World) (h : Ps w c S k i t a p) (q : Option (BTok × Tk.Src)) (R : Int → Int → ByteArray → Int → Int → Int → Int → Prop)
    (hN : ∀ W, Calls Tryz.prog 47 #[.string S, .int .i64 p] W fun e w' => ∃ k i t a en f er, e = .returned (.tuple #[tokV k i t a en, .int .i64 f, .int .i64 er]) ∧ R k i t a en f er ∧ Below W.heap.size W w')
    (hR1 : ∀ k i t a en f er, R k i t a en f er → er ≠ 0 → q = none) (hR2 : ∀ k i t a en f, R k i t a en f 0 → ∃ b l', q = some (b, l') ∧ ∀ w', Ps w' c S k i t a en → PsAt w' c S b l') :
    Calls Tryz.prog 23 #[.pointer (some ⟨c, 0, none⟩)] w (AdvPost S c q w) := by
  have HN := Lib.hid hN
  have HR1 := Lib.hid hR1
  have HR2 := Lib.hid hR2
  clear hN hR1 hR2
  have hc0 : w.cell? ⟨c, 0, none⟩ = some (.string S) := by simpa using Blk.cell h 0
  have hc5 : w.cell? ⟨c, 5, none⟩ = some (.int .i64 p) := by simpa using Blk.cell h 5
  have hlt := Blk.lt h
  have HH := Lib.hid h
  clear h
  go_enter Tryz.func23, Tryz.ntmps23
  go_wp2_with fail
  have HA : Hid (∀ w', Below (w.alloc (.cells #[.int .i64 0, .int .i64 0, .string ⟨#[]⟩, .int .i64 0, .int .i64 0] 53)).drew.heap.size (w.alloc (.cells #[.int .i64 0, .int .i64 0, .string ⟨#[]⟩, .int .i64 0, .int .i64 0] 53)).drew w' →
      Blk w' w.heap.size 53 #[.int .i64 0, .int .i64 0, .string ⟨#[]⟩, .int .i64 0, .int .i64 0] ∧ w.heap.size < w'.heap.size ∧ Below w.heap.size w w') := fun w' hb =>
    ⟨((Blk.new w _ _).drew).below hb (by simp), (by have := hb.size; simp at this; omega), (((Below.refl w.heap.size w).alloc (Nat.le_refl _) _).drew.trans (hb.mono (by simp)))⟩
  have HB : Hid (∀ w', Below w.drew.heap.size w.drew w' → Below w.heap.size w w' ∧ w.heap.size ≤ w'.heap.size) := fun w' hb => ⟨(Below.refl w.heap.size w).drew.trans (hb.mono (by simp)), by have := hb.size; simpa using this⟩
  go_region_with ((go_at_call 47; refine (HN.out _).mono ?_; rintro e w3 ⟨k3, i3, t3, a3, en3, f3, er3, rfl, hr, hb⟩; unfold tokV; (try (have hbx := HA.out _ hb; obtain ⟨x0, x1, x2, x3, x4⟩ := tok_cells hbx.1; have y0 := Blk.frozen hbx.1 0; have y1 := Blk.frozen hbx.1 1; have y2 := Blk.frozen hbx.1 2; have y3 := Blk.frozen hbx.1 3; have y4 := Blk.frozen hbx.1 4; have z0 := hbx.2.1; clear hbx))))
  all_goals
    have HR := Lib.hid hr
    clear hr
    go_upto_region 1 with (fail)
    go_simp
    first
      | (have hbx := HA.out _ hb
         have hk1 := tok_put hbx.1 (.int .i64 k3) (.int .i64 i3) (.string t3) (.int .i64 a3) (.int .i64 en3)
         have hw1 := tok_below hbx.2.2 (Nat.le_refl _) (.int .i64 k3) (.int .i64 i3) (.string t3) (.int .i64 a3) (.int .i64 en3)
         have hl1 : w.heap.size ≤ w.heap.size := Nat.le_refl _
         clear hbx hb x0 x1 x2 x3 x4 y0 y1 y2 y3 y4 z0
         generalize World.setCell _ _ _ = W1 at *)
      | (have hbx := HB.out _ hb
         have hk1 := Blk.new w3 53 #[.int .i64 k3, .int .i64 i3, .string t3, .int .i64 a3, .int .i64 en3]
         have hw1 := hbx.1.alloc hbx.2 (.cells #[.int .i64 k3, .int .i64 i3, .string t3, .int .i64 a3, .int .i64 en3] 53)
         have hl1 := hbx.2
         clear hbx hb
         generalize w3.alloc (.cells #[.int .i64 k3, .int .i64 i3, .string t3, .int .i64 a3, .int .i64 en3] 53) = W1 at *)
  all_goals
    obtain ⟨n0, n1, n2, n3, n4⟩ := tok_cells hk1
    have HP := Lib.hid (Blk.below HH.out hw1 hlt)
    obtain ⟨c0, c1, c2, c3, c4, c5⟩ := ps_cells HP.out
    have f1 := Blk.frozen HP.out 1
    have f2 := Blk.frozen HP.out 2
    have f3 := Blk.frozen HP.out 3
    have f4 := Blk.frozen HP.out 4
    have f5 := Blk.frozen HP.out 5
    have HW := Lib.hid hw1
    clear hk1 hw1
    by_cases her : er3 = 0
    · subst her
      have HE := Lib.hid (HR2.out _ _ _ _ _ _ HR.out)
      clear HR
      go_wp2_with fail
      go_end0
      exact adv_close HE.out (ps_frp (FrS.of_below HW.out (Nat.le_refl _)) _ _ _ _ _) (ps_put HP.out _ _ _ _ _)
    · have her2 : (er3 != 0) = true := by simpa using her
      have HE := Lib.hid (HR1.out _ _ _ _ _ _ _ HR.out her)
      have HNe := Lib.hid her
      clear HR her
      go_wp2_with (go_at_call 25; refine (fail_any _ _ _).mono ?_; rintro e w4 ⟨rfl, rfl⟩)
      refine ⟨rfl, FrS.of_below HW.out (Nat.le_refl _), ?_⟩
      rw [HE.out]
      exact ⟨_, _, HNe.out, rfl⟩
theorem advance_any (S : ByteArray) (hS : S.size ≤ 8192) (c : Nat) (k i : Int) (t : ByteArray) (a : Int) (p : Nat) (hp : p ≤ S.size) (w : World) (h : Ps w c S k i t a p) :
    Calls Tryz.prog 23 #[.pointer (some ⟨c, 0, none⟩)] w (AdvPost S c (nxP ((bys S).drop p)) w) :=
  adv_core S c k i t a p w h _ (NxRel p ((bys S).drop p)) (fun W => Next_any S p W hp hS) (fun _ _ _ _ _ _ _ h he => adv_bad h he) fun _ _ _ _ _ _ h => adv_ok hp h
/-- A source that is too long. -/
theorem advance_long (S : ByteArray) (hS : 8192 < S.size) (c : Nat) (k i : Int) (t : ByteArray) (a : Int) (p : Nat) (w : World) (h : Ps w c S k i t a p) :
    Calls Tryz.prog 23 #[.pointer (some ⟨c, 0, none⟩)] w (AdvPost S c none w) :=
  adv_core S c k i t a p w h _ (fun _ _ _ _ _ _ er => er = 2) (fun W => (Next_long S p W hS).mono fun e w' h => ⟨_, _, _, _, _, _, _, h.1, rfl, h.2⟩) (fun _ _ _ _ _ _ _ _ _ => rfl) fun _ _ _ _ _ _ h => absurd h (by decide)
end Go.Proofs.YthbdhijkdldmoaaGreatDoor
namespace Go.Proofs.YthbdhijkdldmoaaGreatDoor
open Go.RowKit Tk Ob
def MorePost (S : ByteArray) (c : Nat) (ek : Int) (n : Nat) (q : Option (BTok × Tk.Src)) (w : World) (e : Ending) (w' : World) : Prop :=
  FrP c w w' ∧ match q with
    | none => PanE e
    | some (b, l') => if b.kind = ek then e = .returned (.bool false) ∧ PsAt w' c S b l' else if b.kind = 0 ∨ n = 256 then PanE e else e = .returned (.bool true) ∧ PsAt w' c S b l'
theorem PsAt.old {w : World} {c : Nat} {S : ByteArray} {b : BTok} {l : Tk.Src} (h : PsAt w c S b l) (h0 : b.kind ≠ 0) : ∃ (k i : Int) (t : ByteArray) (a : Int) (p : Nat), Ps w c S k i t a p ∧ p ≤ S.size ∧ (bys S).drop p = l := by
  obtain ⟨i, t, a, p, h1, h2⟩ := h
  obtain ⟨_, _, _, q, rfl, h3, h4⟩ := h2 h0
  exact ⟨_, _, _, _, q, h1, h3, h4⟩
/-- advance from a token. -/
theorem advance_at (S : ByteArray) (hS : S.size ≤ 8192) (c : Nat) (b : BTok) (l : Tk.Src) (h0 : b.kind ≠ 0) (w : World) (h : PsAt w c S b l) :
    Calls Tryz.prog 23 #[.pointer (some ⟨c, 0, none⟩)] w (AdvPost S c (nxP l) w) := by
  obtain ⟨k, i, t, a, p, h1, h2, h3⟩ := h.old h0
  rw [← h3]
  exact advance_any S hS c k i t a p h2 w h1
theorem PsAt.lt {w : World} {c : Nat} {S : ByteArray} {b : BTok} {l : Tk.Src} (h : PsAt w c S b l) : c < w.heap.size := by
  obtain ⟨i, t, a, p, h1, h2⟩ := h
  exact Blk.lt h1
theorem PsAt.below {w w' : World} {c B : Nat} {S : ByteArray} {b : BTok} {l : Tk.Src} (h : PsAt w c S b l) (hb : Below B w w') (hc : c < B) : PsAt w' c S b l := by
  obtain ⟨i, t, a, p, h1, h2⟩ := h
  exact ⟨i, t, a, p, Blk.below h1 hb hc, h2⟩
theorem PsAt.fr {w w' : World} {c R : Nat} {T : Nat → Prop} {S : ByteArray} {b : BTok} {l : Tk.Src} (h : PsAt w c S b l) (hf : FrS R T w w') (hc : c < R) (ht : ¬ T c) : PsAt w' c S b l := by
  obtain ⟨i, t, a, p, h1, h2⟩ := h
  exact ⟨i, t, a, p, hf.blk h1 hc ht, h2⟩
set_option maxRecDepth 100000 in
set_option maxHeartbeats 4000000 in
theorem more_any (S : ByteArray) (hS : S.size ≤ 8192) (c : Nat) (b : BTok) (l : Tk.Src) (h0 : b.kind ≠ 0) (ek : Int) (n : Nat) (w : World) (h : PsAt w c S b l) :
    Calls Tryz.prog 69 #[.pointer (some ⟨c, 0, none⟩), .int .i64 ek, .int .i64 n] w (MorePost S c ek n (nxP l) w) := by
  have HA := Lib.hid (advance_at S hS c b l h0 w h)
  have HP : Hid (∀ q e w', MorePost S c ek n q w e w' = MorePost S c ek n q w e w') := fun _ _ _ => rfl
  generalize nxP l = q at *
  clear h h0
  go_enter Tryz.func69, Tryz.ntmps69
  go_wp2_with fail
  refine HA.out.mono ?_
  rintro e w1 ⟨hf, hq⟩
  have HF := Lib.hid hf
  clear hf HA HP
  cases q with
  | none =>
    obtain ⟨a, cc, h1, rfl⟩ := hq
    go_wp2_with fail
    exact ⟨rfl, HF.out, a, cc, h1, rfl⟩
  | some bl =>
    obtain ⟨b1, l1⟩ := bl
    obtain ⟨rfl, hp⟩ := hq
    have HPs := Lib.hid hp
    obtain ⟨i, t, a, p, h1, -⟩ := hp
    obtain ⟨c0, c1, c2, c3, c4, c5⟩ := ps_cells h1
    have hlt := Blk.lt h1
    have HK : Hid (∀ e w', FrP c w w' → (b1.kind = ek → e = .returned (.bool false) ∧ PsAt w' c S b1 l1) → (b1.kind ≠ ek → (b1.kind = 0 ∨ n = 256) → PanE e) → (b1.kind ≠ ek → b1.kind ≠ 0 → n ≠ 256 → e = .returned (.bool true) ∧ PsAt w' c S b1 l1) → MorePost S c ek n (some (b1, l1)) w e w') := by
      intro e w' g1 g2 g3 g4
      refine ⟨g1, ?_⟩
      dsimp only
      split
      · exact g2 ‹_›
      · rename_i x
        split
        · exact g3 x ‹_›
        · rename_i y
          exact g4 x (fun z => y (.inl z)) fun z => y (.inr z)
    have HD : Hid (MorePost S c ek n (some (b1, l1)) w = MorePost S c ek n (some (b1, l1)) w) := rfl
    clear h1 HD
    generalize MorePost S c ek n (some (b1, l1)) w = Post at *
    generalize hkk : b1.kind = k1 at *
    by_cases e1 : k1 = ek
    · have d1 : (k1 == ek) = true := by simpa using e1
      have HE1 := Lib.hid e1
      clear e1
      go_wp2_with fail
      exact HK.out _ _ HF.out (fun _ => ⟨rfl, HPs.out⟩) (fun g => absurd HE1.out g) fun g => absurd HE1.out g
    · have d1 : (k1 == ek) = false := by simpa using e1
      have HE1 := Lib.hid e1
      clear e1
      by_cases e2 : k1 = 0
      · have d2 : (k1 == 0) = true := by simpa using e2
        have HE2 := Lib.hid e2
        clear e2
        go_wp2_with (go_at_call 25; refine (fail_any _ _ _).mono ?_; rintro e w4 ⟨rfl, rfl⟩)
        exact ⟨rfl, HK.out _ _ HF.out (fun g => absurd g HE1.out) (fun _ _ => ⟨_, _, by decide, rfl⟩) fun _ g => absurd HE2.out g⟩
      · have d2 : (k1 == 0) = false := by simpa using e2
        have HE2 := Lib.hid e2
        clear e2
        by_cases e3 : n = 256
        · have d3 : ((n : Int) == 256) = true := by rw [e3]; rfl
          have HE3 := Lib.hid e3
          clear e3
          go_wp2_with (go_at_call 25; refine (fail_any _ _ _).mono ?_; rintro e w4 ⟨rfl, rfl⟩)
          exact ⟨rfl, HK.out _ _ HF.out (fun g => absurd g HE1.out) (fun _ _ => ⟨_, _, by decide, rfl⟩) fun _ _ g => absurd HE3.out g⟩
        · have d3 : ((n : Int) == 256) = false := by simpa using fun h : (n : Int) = 256 => e3 (by omega)
          have HE3 := Lib.hid e3
          clear e3
          go_wp2_with fail
          exact HK.out _ _ HF.out (fun g => absurd g HE1.out) (fun _ g => g.elim (fun g => absurd g HE2.out) fun g => absurd g HE3.out) fun _ _ _ => ⟨rfl, HPs.out⟩
end Go.Proofs.YthbdhijkdldmoaaGreatDoor
namespace Go.Proofs.YthbdhijkdldmoaaGreatDoor
open Go.RowKit Tk Ob
def ObjPost (S : ByteArray) (c : Nat) (r : Option (Ox × Tk.Src)) (w : World) (e : Ending) (w' : World) : Prop :=
  FrP c w w' ∧ match r with
    | none => PanE e
    | some (o, l') => ∃ (v : V5) (b : BTok), e = .returned v.val ∧ ObjV (fun k => w.heap.size ≤ k) w' v o ∧ b.kind ≠ 0 ∧ PsAt w' c S b l'
def listR (r : Option (List Ox × Tk.Src)) : Option (Ox × Tk.Src) := match r with | none => none | some (os, l) => some (.mk 6 0 [] [] os, l)
def lenOf (v : Value) : Nat := match v with | .slice _ n _ => n | _ => 0
abbrev B5 (w : World) (g : Nat) (v : V5) : Prop := Blk w g 25 #[v.k, v.i, v.t, v.ks, v.os]
theorem b5_cells {w : World} {g : Nat} {v : V5} (h : B5 w g v) : w.cell? ⟨g, 0, none⟩ = some v.k ∧ w.cell? ⟨g, 1, none⟩ = some v.i ∧ w.cell? ⟨g, 2, none⟩ = some v.t ∧ w.cell? ⟨g, 3, none⟩ = some v.ks ∧ w.cell? ⟨g, 4, none⟩ = some v.os := by
  refine ⟨?_, ?_, ?_, ?_, ?_⟩
  · simpa using Blk.cell h 0
  · simpa using Blk.cell h 1
  · simpa using Blk.cell h 2
  · simpa using Blk.cell h 3
  · simpa using Blk.cell h 4
theorem b5_put {w : World} {g : Nat} {v : V5} (h : B5 w g v) (u : V5) : B5 (((((w.setCell ⟨g, 0, none⟩ u.k).setCell ⟨g, 1, none⟩ u.i).setCell ⟨g, 2, none⟩ u.t).setCell ⟨g, 3, none⟩ u.ks).setCell ⟨g, 4, none⟩ u.os) g u := by
  have := ((((Blk.put h 0 u.k).put 1 u.i).put 2 u.t).put 3 u.ks).put 4 u.os
  simpa [B5] using this
theorem b5_frs' {R g : Nat} {T : Nat → Prop} {w w' : World} (h : FrS R T w w') (hg : T g) (u : V5) : FrS R T w (((((w'.setCell ⟨g, 0, none⟩ u.k).setCell ⟨g, 1, none⟩ u.i).setCell ⟨g, 2, none⟩ u.t).setCell ⟨g, 3, none⟩ u.ks).setCell ⟨g, 4, none⟩ u.os) :=
  ((((FrS.put h (p := ⟨g, 0, none⟩) (.inr hg) u.k).put (p := ⟨g, 1, none⟩) (.inr hg) u.i).put (p := ⟨g, 2, none⟩) (.inr hg) u.t).put (p := ⟨g, 3, none⟩) (.inr hg) u.ks).put (p := ⟨g, 4, none⟩) (.inr hg) u.os
theorem b5_frs {R g : Nat} {T : Nat → Prop} {w w' : World} (h : FrS R T w w') (hg : R ≤ g) (u : V5) : FrS R T w (((((w'.setCell ⟨g, 0, none⟩ u.k).setCell ⟨g, 1, none⟩ u.i).setCell ⟨g, 2, none⟩ u.t).setCell ⟨g, 3, none⟩ u.ks).setCell ⟨g, 4, none⟩ u.os) :=
  ((((FrS.put h (p := ⟨g, 0, none⟩) (.inl hg) u.k).put (p := ⟨g, 1, none⟩) (.inl hg) u.i).put (p := ⟨g, 2, none⟩) (.inl hg) u.t).put (p := ⟨g, 3, none⟩) (.inl hg) u.ks).put (p := ⟨g, 4, none⟩) (.inl hg) u.os
set_option maxRecDepth 100000 in
set_option maxHeartbeats 16000000 in
theorem list_any (S : ByteArray) (hS : S.size ≤ 8192) (c : Nat) (g : BTok → Tk.Src → Option (Ox × Tk.Src)) (d : Nat) (hd : d ≤ 12)
    (hg : ∀ b l W, PsAt W c S b l → Calls Tryz.prog 24 #[.pointer (some ⟨c, 0, none⟩), .int .i64 ((d : Int) + 1)] W (ObjPost S c (g b l) W))
    (b0 : BTok) (l0 : Tk.Src) (h0 : b0.kind ≠ 0) (w : World) (h : PsAt w c S b0 l0) :
    Calls Tryz.prog 48 #[.pointer (some ⟨c, 0, none⟩), .int .i64 d] w (ObjPost S c (listR (listP g 257 [] l0)) w) := by
  have HG := Lib.hid hg
  have hlt := h.lt
  have HP := Lib.hid h
  have HR : Hid (listP g 257 [] l0 = listP g 257 [] l0) := rfl
  generalize hr : listP g 257 [] l0 = r at *
  have HRr := Lib.hid hr
  have HB0 := Lib.hid h0
  clear hg h h0 HR hr
  have hb0 := ((Blk.new w 25 #[.int .i64 0, .int .i64 0, .string ⟨#[]⟩, .slice none 0 0, .slice none 0 0]).alloc (.cells #[.int .i64 6, .int .i64 0, .string ⟨#[]⟩, .slice none 0 0, .slice none 0 0] 25))
  have hb1 := Blk.new (w.alloc (.cells #[.int .i64 0, .int .i64 0, .string ⟨#[]⟩, .slice none 0 0, .slice none 0 0] 25)) 25 #[.int .i64 6, .int .i64 0, .string ⟨#[]⟩, .slice none 0 0, .slice none 0 0]
  rw [show (w.alloc (.cells #[.int .i64 0, .int .i64 0, .string ⟨#[]⟩, .slice none 0 0, .slice none 0 0] 25)).heap.size = w.heap.size + 1 by simp] at hb1
  have HB0w := Lib.hid hb0
  have HB1w := Lib.hid hb1
  have hfr0 : FrP c w ((w.alloc (.cells #[.int .i64 0, .int .i64 0, .string ⟨#[]⟩, .slice none 0 0, .slice none 0 0] 25)).alloc (.cells #[.int .i64 6, .int .i64 0, .string ⟨#[]⟩, .slice none 0 0, .slice none 0 0] 25)) := ((FrS.refl _ _ _).alloc (Nat.le_refl _) _).alloc (by simp) _
  have HFr0 := Lib.hid hfr0
  have HPs0 : Hid (PsAt ((w.alloc (.cells #[.int .i64 0, .int .i64 0, .string ⟨#[]⟩, .slice none 0 0, .slice none 0 0] 25)).alloc (.cells #[.int .i64 6, .int .i64 0, .string ⟨#[]⟩, .slice none 0 0, .slice none 0 0] 25)) c S b0 l0) := HP.out.below (((Below.refl w.heap.size w).alloc (Nat.le_refl _) _).alloc (by simp) _) hlt
  clear hb0 hb1 hfr0
  go_enter Tryz.func48, Tryz.ntmps48
  go_wp2_with fail
  go_loopw [] (fun wq => True ∧ ∃ (acc : List Ox) (vs : List V5) (l : Tk.Src) (b : BTok) (f : Nat) (A : Option Addr) (cc : Nat), acc.length ≤ 256 ∧ f + acc.length = 257 ∧ listP g f acc l = r ∧ b.kind ≠ 0 ∧ PsAt wq c S b l ∧
    B5 wq (w.heap.size + 1) ⟨.int .i64 6, .int .i64 0, .string ⟨#[]⟩, .slice none 0 0, .slice A acc.length cc⟩ ∧ B5 wq w.heap.size ⟨.int .i64 0, .int .i64 0, .string ⟨#[]⟩, .slice none 0 0, .slice none 0 0⟩ ∧ TrR wq (w.heap.size + 2) (.slice none 0 0) (.slice A acc.length cc) [] acc vs ∧ w.heap.size + 2 ≤ wq.heap.size ∧ FrP c w wq)
    (fun wq => 257 - lenOf ((wq.cell? ⟨w.heap.size + 1, 4, none⟩).getD .nilIface))
  case atStart => exact ⟨trivial, [], [], l0, b0, 257, none, 0, by simp, rfl, HRr.out, HB0.out, HPs0.out, HB1w.out, HB0w.out, TrR.nil _ _, by simp, HFr0.out⟩
  case round =>
    obtain ⟨-, acc, vs, l, b, f, A, cc, hac, hfl, hrr, hbk, hps, hb1, hb0, htr, hsz, hfr⟩ := hrel
    have hcm := hps.lt
    have hcell := Blk.cell hb1 4
    simp only [List.getElem?_toArray, List.getElem?_cons_zero, List.getElem?_cons_succ] at hcell
    have HMo := Lib.hid (more_any S hS c b l hbk 7 acc.length wr hps)
    have HRr2 := Lib.hid hrr
    have HB1 := Lib.hid hb1
    have HB0 := Lib.hid hb0
    have HTr := Lib.hid htr
    have HFr := Lib.hid hfr
    have HFl := Lib.hid hfl
    clear hrr hps hb1 hb0 htr hfr hbk hfl
    go_wp2_with fail
    refine HMo.out.mono ?_
    rintro e w1 ⟨hf1, hq⟩
    have HF1 := Lib.hid hf1
    have hs1 := hf1.size
    have HB11 := Lib.hid (hf1.blk HB1.out HB1.out.lt (by omega))
    have HB01 := Lib.hid (hf1.blk HB0.out HB0.out.lt (by omega))
    have HTr1 := Lib.hid (HTr.out.fr hf1 (Nat.le_refl _) (fun k hk => by omega))
    have HFr1 : Hid (FrP c w w1) := HFr.out.trans (hf1.weak (by omega) fun _ _ h => h)
    have HNx : Hid (nxP l = nxP l) := rfl
    generalize hnx : nxP l = nq at *
    have HNx := Lib.hid hnx
    clear hf1 HMo hnx
    obtain ⟨f, rfl⟩ : ∃ k, f = k + 1 := by
      cases f with
      | zero => have := HFl.out; omega
      | succ k => exact ⟨k, rfl⟩
    have HL : Hid (listP g (f + 1) acc l = match nxP l with
      | none => none
      | some (t, r) => if t.kind = 7 then some (acc, r) else if t.kind = 0 then none else if acc.length = 256 then none
        else match g t r with
          | none => none
          | some (o, r2) => listP g f (acc ++ [o]) r2) := rfl
    cases nq with
    | none =>
      obtain ⟨x, y, hy, rfl⟩ := hq
      have HRn : Hid (r = none) := by have := HL.out; rw [HNx.out, HRr2.out] at this; exact this
      go_wp2_with fail
      refine ⟨rfl, HFr1.out, ?_⟩
      rw [HRn.out]
      exact ⟨x, y, hy, rfl⟩
    | some tl =>
      obtain ⟨t1, l1⟩ := tl
      dsimp only at hq
      by_cases e7 : t1.kind = 7
      · rw [if_pos e7] at hq
        obtain ⟨rfl, hp1⟩ := hq
        have HRn : Hid (r = some (acc, l1)) := by have := HL.out; rw [HNx.out, HRr2.out] at this; dsimp only at this; rw [if_pos e7] at this; exact this
        have HP1 := Lib.hid hp1
        have HE7 := Lib.hid e7
        clear hp1 e7
        obtain ⟨x0, x1, x2, x3, x4⟩ := b5_cells HB11.out
        obtain ⟨y0, y1, y2, y3, y4⟩ := b5_cells HB01.out
        have z0 := Blk.frozen HB01.out 0
        have z1 := Blk.frozen HB01.out 1
        have z2 := Blk.frozen HB01.out 2
        have z3 := Blk.frozen HB01.out 3
        have z4 := Blk.frozen HB01.out 4
        have zl := HB01.out.lt
        go_wp2_with fail
        have hbz := b5_put (v := ⟨.int .i64 0, .int .i64 0, .string ⟨#[]⟩, .slice none 0 0, .slice none 0 0⟩) HB01.out ⟨.int .i64 6, .int .i64 0, .string ⟨#[]⟩, .slice none 0 0, .slice A acc.length cc⟩
        have hfz := b5_frs HFr1.out (Nat.le_refl w.heap.size) ⟨.int .i64 6, .int .i64 0, .string ⟨#[]⟩, .slice none 0 0, .slice A acc.length cc⟩
        have htz := HTr1.out.shut 6 0 []
        have hfw : FrS w1.heap.size (fun k => k = w.heap.size) w1 w1 := FrS.refl _ _ _
        have hfx := b5_frs' hfw (T := fun k => k = w.heap.size) rfl ⟨.int .i64 6, .int .i64 0, .string ⟨#[]⟩, .slice none 0 0, .slice A acc.length cc⟩
        refine bodyPost_ret (v := .agg #[.int .i64 6, .int .i64 0, .string ⟨#[]⟩, .slice none 0 0, .slice A acc.length cc]) ?_ rfl ?_
        · obtain ⟨z0, z1, z2, z3, z4⟩ := b5_cells hbz
          clear hbz hfz hfx
          generalize World.setCell _ _ _ = W at *
          simp [results, Tryz.results48, go_sem, z0, z1, z2, z3, z4]
        · refine ⟨hfz, ?_⟩
          rw [HRn.out]
          refine ⟨⟨_, _, _, _, _⟩, t1, rfl, (htz.keep hfx.size fun k hk hl => hfx.block k hl (by omega)).mono fun k _ hk => by omega, ?_, HP1.out.fr hfx HP1.out.lt (by omega)⟩
          rw [HE7.out]; decide
      · rw [if_neg e7] at hq
        by_cases e0 : t1.kind = 0 ∨ acc.length = 256
        · rw [if_pos e0] at hq
          obtain ⟨x, y, hy, rfl⟩ := hq
          have HRn : Hid (r = none) := by
            have := HL.out; rw [HNx.out, HRr2.out] at this; dsimp only at this; rw [if_neg e7] at this
            by_cases e00 : t1.kind = 0
            · rw [if_pos e00] at this; exact this
            · rw [if_neg e00, if_pos (e0.resolve_left e00)] at this; exact this
          clear e0 e7
          go_wp2_with fail
          refine ⟨rfl, HFr1.out, ?_⟩
          rw [HRn.out]
          exact ⟨x, y, hy, rfl⟩
        · rw [if_neg e0] at hq
          obtain ⟨rfl, hp1⟩ := hq
          have e00 : t1.kind ≠ 0 := fun h => e0 (.inl h)
          have e256 : acc.length ≠ 256 := fun h => e0 (.inr h)
          have HRn : Hid (r = match g t1 l1 with
              | none => none
              | some (o, r2) => listP g f (acc ++ [o]) r2) := by
            have := HL.out; rw [HNx.out, HRr2.out] at this; dsimp only at this; rw [if_neg e7, if_neg e00, if_neg e256] at this; exact this
          have HGo := Lib.hid fun W h => HG.out t1 l1 W h
          have HP1 := Lib.hid hp1
          have hac2 : acc.length ≤ 255 := by have := HFl.out; omega
          clear hp1 e0 e7 e00 e256
          obtain ⟨x0, x1, x2, x3, x4⟩ := b5_cells HB11.out
          have zf := Blk.frozen HB11.out 4
          have zl := HB11.out.lt
          have hS0 : (fun w' : World => w'.cell? ⟨w.heap.size + 1, 4, none⟩ = some (.slice A acc.length cc)) w1.drew := x4
          have hdi : IntKind.i64.wrap ((d : Int) + 1) = (d : Int) + 1 := IntWalk.i64_in _ (by omega)
          go_wp2_with fail
          refine wp_region_tail (fun w' => w'.cell? ⟨w.heap.size + 1, 4, none⟩ = some (.slice A acc.length cc)) 7 (by kernel_rfl) (by kernel_rfl) hS0 (fun hHeld => ?_)
          refine wpAnyD_take 0 (v := ?_) rfl (by kernel_rfl) (by kernel_rfl) (by kernel_rfl) (fun _ _ _ h => h) hHeld (Or.inl ⟨by rfl, ?_⟩) ?_
          rotate_left
          · intro w' hw'; go_simp; try with_reducible rfl
          try simp only [Act.put, List.setIfInBounds_toArray, List.set_cons_zero, List.set_cons_succ]
          refine wpAnyD_take 1 (v := ?_) rfl (by kernel_rfl) (by kernel_rfl) (by kernel_rfl) (fun _ _ _ h => h) hHeld (Or.inl ⟨by rfl, ?_⟩) ?_
          rotate_left
          · intro w' hw'; go_simp; try with_reducible rfl
          try simp only [Act.put, List.setIfInBounds_toArray, List.set_cons_zero, List.set_cons_succ]
          refine wpAnyD_take 2 (v := ?_) rfl (by kernel_rfl) (by kernel_rfl) (by kernel_rfl) (fun _ _ _ h => h) hHeld (Or.inl ⟨by rfl, ?_⟩) ?_
          rotate_left
          · intro w' hw'; go_simp; try with_reducible rfl
          try simp only [Act.put, List.setIfInBounds_toArray, List.set_cons_zero, List.set_cons_succ]
          refine wpAnyD_take 3 (v := ?_) rfl (by kernel_rfl) (by kernel_rfl) (by kernel_rfl) (fun _ _ _ h => h) hHeld (Or.inl ⟨by rfl, ?_⟩) ?_
          rotate_left
          · intro w' hw'; go_simp; try with_reducible rfl
          try simp only [Act.put, List.setIfInBounds_toArray, List.set_cons_zero, List.set_cons_succ]
          refine wpAnyD_take 4 (v := ?_) rfl (by kernel_rfl) (by kernel_rfl) (by kernel_rfl) (fun _ _ _ h => h) hHeld (Or.inl ⟨by rfl, ?_⟩) ?_
          rotate_left
          · intro w' hw'; go_simp; try with_reducible rfl
          try simp only [Act.put, List.setIfInBounds_toArray, List.set_cons_zero, List.set_cons_succ]
          refine wpAnyD_ready [5] (by kernel_rfl) ?_
          refine AllReadyD.cons rfl (fun K hK => ?_) AllReadyD.nil
          go_simp
          refine (HGo.out w1.drew (HP1.out.fr (R := w1.heap.size) (T := fun _ => False) (FrS.refl _ _ _).drew HP1.out.lt (fun h => h))).mono ?_
          rintro e w9 ⟨hf9, hq9⟩
          have HF9 : Hid (FrP c w1 w9) := ⟨hf9.os, hf9.tape, hf9.output, hf9.size, hf9.block⟩
          have hs9 : w1.heap.size ≤ w9.heap.size := HF9.out.size
          generalize hgo : g t1 l1 = go at *
          have HGo2 := Lib.hid hgo
          clear hf9 hgo
          cases go with
          | none =>
            obtain ⟨x, y, hy, rfl⟩ := hq9
            refine ⟨rfl, HFr1.out.trans (HF9.out.weak (by omega) fun _ _ h => h), ?_⟩
            rw [HRn.out]
            exact ⟨x, y, hy, rfl⟩
          | some ol =>
            obtain ⟨o, l2⟩ := ol
            dsimp only at hq9 HRn
            obtain ⟨u, b2, rfl, hob, hb2, hps2⟩ := hq9
            obtain ⟨kv, dv, us, rfl, hsl, hsm, -, -⟩ := hob.open_
            obtain ⟨Ak, ck, rfl⟩ := hsl.form
            obtain ⟨Ad, cd, rfl⟩ := hsm.form
            have HOb : Hid (ObjV (fun k => w1.heap.size ≤ k) w9 _ o) := hob
            have HB2 := Lib.hid hb2
            have HPs2 := Lib.hid hps2
            unfold V5.val
            generalize hsl1 : (strs o.keys).length = n1 at *
            generalize hsl2 : o.kids.length = n2 at *
            generalize hk1 : o.kind = k1 at *
            generalize hi1 : o.int = i1 at *
            generalize ht1 : (⟨o.text.toArray⟩ : ByteArray) = T1 at *
            have hB9 := HF9.out.blk HB11.out HB11.out.lt (by omega)
            have HB9 := Lib.hid hB9
            have hg9 : (fun w' : World => w'.cell? ⟨w.heap.size + 1, 4, none⟩ = some (.slice A acc.length cc)) w9 := (hB9.cell 4).trans rfl
            clear hob hb2 hps2 hsl hsm hsl1 hsl2 hk1 hi1 ht1 hB9
            refine hK.out _ _ hg9 (fun hHeld => ?_)
            refine wpAnyD_ready [6] (by kernel_rfl) ?_
            refine AllReadyD.cons rfl (fun K hK => ?_) AllReadyD.nil
            go_simp
            have hg10 : (fun w' : World => w'.cell? ⟨w.heap.size + 1, 4, none⟩ = some (.slice A acc.length cc)) (w9.alloc (.cells #[.int .i64 k1, .int .i64 i1, .string T1, .slice Ak n1 ck, .slice Ad n2 cd] 25)) := ((HB9.out.alloc _).cell 4).trans rfl
            refine hK.out _ _ hg10 (fun hHeld => ?_)
            refine wpAnyD_done (by kernel_rfl) ?_
            simp only [List.drop_succ_cons, List.drop_zero]
            have HTr9 := Lib.hid (HTr1.out.fr HF9.out (Nat.le_refl _) (fun k hk => by omega))
            have HOl : Hid (∀ k, (Value.slice A acc.length cc).ownBlock = some k → w.heap.size + 2 ≤ k) := fun k hk => (own_lt HTr1.out.od k hk).1
            have hB9' := HB9.out
            clear hg9 hg10 hHeld hK hS0 hB9' x0 x1 x2 x3 x4 zf
            go_wp2_with (at_builtin; go_must (refine wpList_pushk eOb rfl (.tmp 13) (.tmp 18) rfl (w.heap.size + 2) (.slice A acc.length cc) acc.length _ rfl (HTr9.out.alloc _).od ⟨w9.heap.size, 0, none⟩ 1 [.int .i64 k1, .int .i64 i1, .string T1, .slice Ak n1 ck, .slice Ad n2 cd] rfl rfl (news_new _ _ _ _ rfl) (by simp [Value.oneCell']) (by omega) (by omega) (by omega) (by simp; omega) ?_); go_must (intro v' w11 hown11 hgr11 hk11; have HO11 := Lib.hid hown11; have HK11 := Lib.hid hk11; have HGr11 := Lib.hid hgr11; have hgk := ((HB9.out.alloc (.cells #[.int .i64 k1, .int .i64 i1, .string T1, .slice Ak n1 ck, .slice Ad n2 cd] 25)).grown hgr11 (fun e => by have := HOl.out _ e.symm; omega)); have h1 := hgk.cell 4; have h1f := hgk.frozen 4; simp at h1; obtain ⟨A11, c11, rfl⟩ := own_form hown11; have HGk2 := Lib.hid (hgk.put 4 (.slice A11 (acc.length + 1) c11)); clear hown11 hgr11 hk11 hgk))
            have hlen : (acc ++ [o]).length = acc.length + 1 := by simp
            have hpu := (HTr1.out.push (u := ⟨.int .i64 k1, .int .i64 i1, .string T1, .slice Ak n1 ck, .slice Ad n2 cd⟩) (by omega) HF9.out (fun k hk => by omega) HOb.out HO11.out HGr11.out HK11.out)
            have hfs : FrS w11.heap.size (fun k => k = w.heap.size + 1) w11 (w11.setCell ⟨w.heap.size + 1, 4, none⟩ (.slice A11 (acc.length + 1) c11)) := FrS.put (p := ⟨w.heap.size + 1, 4, none⟩) (FrS.refl w11.heap.size (fun k => k = w.heap.size + 1) w11) (.inr rfl) _
            have hs11 := HGr11.out.size
            have hga : FrS w9.heap.size (fun k => w.heap.size + 2 ≤ k) w9 w11 := ((FrS.refl _ _ _).alloc (Nat.le_refl _) _).grown HGr11.out (by simp) fun k hk => .inr (HOl.out k hk)
            have hs11' : w9.heap.size ≤ w11.heap.size := hga.size
            refine ⟨⟨trivial, acc ++ [o], vs ++ [⟨.int .i64 k1, .int .i64 i1, .string T1, .slice Ak n1 ck, .slice Ad n2 cd⟩], l2, b2, f, A11, c11, by omega, by have := HFl.out; omega, HRn.out.symm, HB2.out, ?_, ?_, ?_, ?_, ?_, ?_⟩, ?_⟩
            · exact (HPs2.out.fr hga HPs2.out.lt (by omega)).fr hfs (by have := HPs2.out.lt; omega) (by omega)
            · rw [hlen]; have := HGk2.out; simpa [B5] using this
            · exact hfs.blk (hga.blk (HF9.out.blk HB01.out HB01.out.lt (by omega)) (by have := HB01.out.lt; omega) (by omega)) (by have := HB01.out.lt; omega) (by omega)
            · rw [hlen]; exact hpu.fr hfs (Nat.le_refl _) (fun k hk => by omega)
            · have := hfs.size; omega
            · exact ((HFr1.out.trans (HF9.out.weak (by omega) fun _ _ h => h)).trans (hga.weak (R' := w.heap.size) (S' := fun k => k = c) (by omega) fun k h1 h2 => by omega)).trans (hfs.weak (by omega) fun k h1 h2 => by omega)
            · have hz := (Blk.cell HGk2.out 4)
              simp at hz
              rw [hz, hcell]
              simp [lenOf]; omega
end Go.Proofs.YthbdhijkdldmoaaGreatDoor
