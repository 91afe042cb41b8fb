/- The walks of token's small functions: kinds of bytes. What a call leaves as it was; a cursor and a builder in memory. Objects that a call makes: rows of keys and of elements of its own. Inserting into a row of the call's own: cells. No program is in sight here. Objects are read as they were printed; in plain words. Rows of keys and of elements: one more in between. How many tokens an object has; in plain words. -/
import Derived.Test.YthbdhijkdldmoaaGreatDoorObjMem
import Derived.Test.YthbdhijkdldmoaaGreatDoorTokPlain
import Derived.Test.YthbdhijkdldmoaaGreatDoorLaid
import Derived.IntWalk
import Derived.Shelf.Spec.SlicesInsertGrow
namespace Go.Proofs.YthbdhijkdldmoaaGreatDoor
open Go.RowKit Tk
/-- A byte as a number. -/
def bt (c : UInt8) : Int := (c.toNat : Int)
theorem bt_nn (c : UInt8) : 0 ≤ bt c ∧ bt c ≤ 255 := by unfold bt; have := c.toNat_lt; omega
theorem bt_inj {a b : UInt8} (h : bt a = bt b) : a = b := by unfold bt at h; exact UInt8.toNat_inj.1 (by omega)
theorem white_bt (c : UInt8) : white c = (decide (bt c = 32) || (decide (bt c = 9) || decide (bt c = 10))) := by
  have := u8_all (fun c => white c == (decide (bt c = 32) || (decide (bt c = 9) || decide (bt c = 10)))) (by decide +kernel) c
  simpa using this
theorem digit_bt (c : UInt8) : digit c = (decide (48 ≤ bt c) && decide (bt c ≤ 57)) := by
  have := u8_all (fun c => digit c == (decide (48 ≤ bt c) && decide (bt c ≤ 57))) (by decide +kernel) c
  simpa using this
theorem letter_bt (c : UInt8) : letter c = ((decide (97 ≤ bt c) && decide (bt c ≤ 122)) || (decide (65 ≤ bt c) && decide (bt c ≤ 90))) := by
  have := u8_all (fun c => letter c == ((decide (97 ≤ bt c) && decide (bt c ≤ 122)) || (decide (65 ≤ bt c) && decide (bt c ≤ 90)))) (by decide +kernel) c
  simpa using this
theorem delim_bt (c : UInt8) : delim c = decide (0 ≤ Lib.indexByte [40, 41, 60, 62, 91, 93, 47, 64, 37] c) := by
  have := u8_all (fun c => delim c == decide (0 ≤ Lib.indexByte [40, 41, 60, 62, 91, 93, 47, 64, 37] c)) (by decide +kernel) c
  simpa using this
theorem white_any (c : UInt8) (w : World) : Calls Tryz.prog 65 #[.int .u8 (bt c)] w fun e w' => e = .returned (.bool (white c)) ∧ w = w' := by
  have HF := Lib.hid (white_bt c)
  have hb := bt_nn c
  generalize bt c = n at *
  by_cases h1 : n = 32
  · subst h1
    go_enter Tryz.func65, Tryz.ntmps65
    go_wp2
    go_ret
    exact ⟨by rw [HF.out]; rfl, rfl⟩
  · by_cases h2 : n = 9
    · subst h2
      go_enter Tryz.func65, Tryz.ntmps65
      go_wp2
      go_ret
      exact ⟨by rw [HF.out]; rfl, rfl⟩
    · have HF2 : Hid (white c = (n == 10)) := by unfold Hid; rw [HF.out, decide_eq_false h1, decide_eq_false h2]; rfl
      have b1 : (n == 32) = false := by simpa using h1
      have b2 : (n == 9) = false := by simpa using h2
      go_enter Tryz.func65, Tryz.ntmps65
      go_wp2
      go_ret
      exact ⟨by rw [HF2.out]; rfl, rfl⟩
theorem digit_any (c : UInt8) (w : World) : Calls Tryz.prog 87 #[.int .u8 (bt c)] w fun e w' => e = .returned (.bool (digit c)) ∧ w = w' := by
  have HF := Lib.hid (digit_bt c)
  have hb := bt_nn c
  generalize bt c = n at *
  by_cases h1 : 48 ≤ n
  · have HF2 : Hid (digit c = decide (n ≤ 57)) := by unfold Hid; rw [HF.out, decide_eq_true h1]; rfl
    go_enter Tryz.func87, Tryz.ntmps87
    go_wp2
    go_ret
    exact ⟨by rw [HF2.out]; rfl, rfl⟩
  · have HF2 : Hid (digit c = false) := by unfold Hid; rw [HF.out, decide_eq_false h1]; rfl
    go_enter Tryz.func87, Tryz.ntmps87
    go_wp2
    go_ret
    exact ⟨by rw [HF2.out]; rfl, rfl⟩
theorem letter_any (c : UInt8) (w : World) : Calls Tryz.prog 86 #[.int .u8 (bt c)] w fun e w' => e = .returned (.bool (letter c)) ∧ w = w' := by
  have HF := Lib.hid (letter_bt c)
  have hb := bt_nn c
  generalize bt c = n at *
  by_cases h1 : 97 ≤ n
  · by_cases h2 : n ≤ 122
    · have HF2 : Hid (letter c = true) := by unfold Hid; rw [HF.out, decide_eq_true h1, decide_eq_true h2]; rfl
      go_enter Tryz.func86, Tryz.ntmps86
      go_wp2
      go_ret
      exact ⟨by rw [HF2.out]; rfl, rfl⟩
    · have HF2 : Hid (letter c = false) := by unfold Hid; rw [HF.out, decide_eq_true h1, decide_eq_false h2, decide_eq_true (show 65 ≤ n by omega), decide_eq_false (show ¬ n ≤ 90 by omega)]; rfl
      have h3 : 65 ≤ n := by omega
      have h4 : ¬ n ≤ 90 := by omega
      go_enter Tryz.func86, Tryz.ntmps86
      go_wp2
      go_ret
      exact ⟨by rw [HF2.out]; rfl, rfl⟩
  · by_cases h2 : 65 ≤ n
    · have HF2 : Hid (letter c = decide (n ≤ 90)) := by unfold Hid; rw [HF.out, decide_eq_false h1, decide_eq_true h2]; simp
      go_enter Tryz.func86, Tryz.ntmps86
      go_wp2
      go_ret
      exact ⟨by rw [HF2.out]; rfl, rfl⟩
    · have HF2 : Hid (letter c = false) := by unfold Hid; rw [HF.out, decide_eq_false h1, decide_eq_false h2]; rfl
      go_enter Tryz.func86, Tryz.ntmps86
      go_wp2
      go_ret
      exact ⟨by rw [HF2.out]; rfl, rfl⟩
theorem delim_any (c : UInt8) (w : World) : Calls Tryz.prog 66 #[.int .u8 (bt c)] w fun e w' => e = .returned (.bool (delim c)) ∧ w = w' := by
  have HF := Lib.hid (delim_bt c)
  have HC : Hid (∀ W, Calls Tryz.prog 82 #[.string ⟨#[40, 41, 60, 62, 91, 93, 47, 64, 37]⟩, .int .u8 (bt c)] W fun e w' => e = .returned (.int .i64 (Lib.indexByte [40, 41, 60, 62, 91, 93, 47, 64, 37] c)) ∧ w' = W) := fun W => by
    have h := strings_IndexByte ⟨#[40, 41, 60, 62, 91, 93, 47, 64, 37]⟩ (bt c) W
    rwa [show (bt c).toNat.toUInt8 = c by unfold bt; rw [Int.toNat_natCast]; exact UInt8.ofNat_toNat] at h
  generalize Lib.indexByte [40, 41, 60, 62, 91, 93, 47, 64, 37] c = r at *
  have HD : Hid (delim c = decide (0 ≤ r)) := HF.out
  clear HF
  go_enter Tryz.func66, Tryz.ntmps66
  go_wp2_with fail
  refine (HC.out _).mono ?_
  rintro e w1 ⟨rfl, rfl⟩
  go_wp2_with fail
  go_ret
  exact ⟨by rw [HD.out]; rfl, rfl⟩
theorem regular_any (c : UInt8) (w : World) : Calls Tryz.prog 42 #[.int .u8 (bt c)] w fun e w' => e = .returned (.bool (regular c)) ∧ w = w' := by
  have HW := Lib.hid fun W => white_any c W
  have HD := Lib.hid fun W => delim_any c W
  have HF : Hid (regular c = (!white c && !delim c)) := rfl
  generalize regular c = rr at *
  cases hw : white c
  · rw [hw] at HW HF
    generalize delim c = d at *
    go_enter Tryz.func42, Tryz.ntmps42
    go_wp2_with fail
    refine (HW.out _).mono ?_
    rintro e w1 ⟨rfl, rfl⟩
    go_wp2_with (go_at_call 66; refine (HD.out _).mono ?_; rintro e w1 ⟨rfl, rfl⟩)
    go_ret
    exact ⟨by rw [HF.out]; simp, rfl⟩
  · rw [hw] at HW HF
    go_enter Tryz.func42, Tryz.ntmps42
    go_wp2_with fail
    refine (HW.out _).mono ?_
    rintro e w1 ⟨rfl, rfl⟩
    go_wp2_with fail
    go_ret
    exact ⟨by rw [HF.out]; rfl, rfl⟩
end Go.Proofs.YthbdhijkdldmoaaGreatDoor
namespace Go.Proofs.YthbdhijkdldmoaaGreatDoor
open Go.RowKit Tk
/-- Nothing below R turns but the blocks of S. -/
structure FrS (R : Nat) (S : Nat → Prop) (w w' : World) : Prop where
  os : w'.os = w.os
  tape : w'.tape = w.tape
  output : w'.output = w.output
  size : w.heap.size ≤ w'.heap.size
  block : ∀ k, k < R → ¬ S k → w'.heap[k]? = w.heap[k]?
section
variable {R R' : Nat} {S S' : Nat → Prop} {a w w' c : World}
theorem FrS.refl (R : Nat) (S : Nat → Prop) (w : World) : FrS R S w w := ⟨rfl, rfl, rfl, Nat.le_refl _, fun _ _ _ => rfl⟩
theorem FrS.trans (h : FrS R S a w) (k : FrS R S w c) : FrS R S a c := ⟨k.os.trans h.os, k.tape.trans h.tape, k.output.trans h.output, Nat.le_trans h.size k.size, fun j hj hb => (k.block j hj hb).trans (h.block j hj hb)⟩
theorem FrS.weak (h : FrS R S a w) (hR : R' ≤ R) (hS : ∀ k, k < R' → S k → S' k) : FrS R' S' a w := ⟨h.os, h.tape, h.output, h.size, fun k hk hs => h.block k (by omega) fun e => hs (hS k hk e)⟩
theorem FrS.alloc (h : FrS R S a w) (hR : R ≤ w.heap.size) (o : Obj) : FrS R S a (w.alloc o) := ⟨h.os, h.tape, h.output, Nat.le_trans h.size (by simp), fun k hk hs => (Below.heap_alloc w o k (by omega)).trans (h.block k hk hs)⟩
theorem FrS.put (h : FrS R S a w) {p : Addr} (hp : R ≤ p.block ∨ S p.block) (u : Value) : FrS R S a (w.setCell p u) := by
  have h2 := (Below.refl 0 w).setCell (p := p) (Nat.zero_le _) u
  refine ⟨h2.os.trans h.os, h2.tape.trans h.tape, h2.output.trans h.output, Nat.le_trans h.size h2.size, fun k hk hs => ?_⟩
  rw [Below.heap_setCell w p u k fun e => ?_]
  · exact h.block k hk hs
  · rcases hp with hp | hp
    · omega
    · exact hs (e ▸ hp)
theorem FrS.grown {v : Value} (h : FrS R S a w) (hg : w.grownBy w' v.ownBlock) (hR : R ≤ w.heap.size) (hv : ∀ k, v.ownBlock = some k → R ≤ k ∨ S k) : FrS R S a w' :=
  h.trans ⟨hg.os, hg.tape, hg.output, hg.size, fun k hk hs => hg.block k (by omega) fun e => by
    rcases hv k e.symm with h1 | h1
    · omega
    · exact hs h1⟩
theorem FrS.blk {g : Nat} {t : TypeId} {cs : Array Value} (h : FrS R S w w') (hb : Blk w g t cs) (hg : g < R) (hs : ¬ S g) : Blk w' g t cs := (h.block g hg hs).trans hb
theorem FrS.below (h : FrS R S w w') {B : Nat} (hB : B ≤ R) (hS : ∀ k, S k → B ≤ k) : Below B w w' := ⟨h.os, h.tape, h.output, h.size, fun k hk => h.block k (by omega) fun e => by have := hS k e; omega⟩
theorem FrS.own {base n size : Nat} {e : TypeId} {v : Value} {xs : List Value} (h : FrS R S w w') (ho : w.ownsRow base e size v n xs) (hR : ∀ k, v.ownBlock = some k → k < R ∧ ¬ S k) : w'.ownsRow base e size v n xs := by
  rcases ho with ⟨hl, ho⟩
  refine ⟨hl, ?_⟩
  rcases ho with ho | ⟨g, cap, cur, rfl, hg, hh, r⟩
  · exact .inl ho
  · have := hR g rfl
    exact .inr ⟨g, cap, cur, rfl, hg, (h.block g this.1 this.2).trans hh, r⟩
end
theorem FrS.drew {R : Nat} {S : Nat → Prop} {w w' : World} (h : FrS R S w w') : FrS R S w w'.drew := ⟨h.os, h.tape, h.output, h.size, h.block⟩
theorem FrS.drewN {R : Nat} {S : Nat → Prop} {w w' : World} (h : FrS R S w w') (n : Nat) : FrS R S w (w'.drewN n) := ⟨h.os, h.tape, h.output, h.size, h.block⟩
theorem FrS.of_x {R b : Nat} {S : Nat → Prop} {w w' : World} (h : FrX R b w w') (hb : S b) : FrS R S w w' := ⟨h.os, h.tape, h.output, h.size, fun k hk hs => h.block k hk fun e => hs (e ▸ hb)⟩
theorem FrS.of_below {B R : Nat} {S : Nat → Prop} {w w' : World} (h : Below B w w') (hR : R ≤ B) : FrS R S w w' := ⟨h.os, h.tape, h.output, h.size, fun k hk _ => h.block k (by omega)⟩
/-- A cursor in block c: its source, its place. -/
def Cu (w : World) (c : Nat) (S : ByteArray) (p : Nat) : Prop := Blk w c 116 #[.string S, .int .i64 (p : Int)]
theorem Cu.fr {R : Nat} {T : Nat → Prop} {w w' : World} {c : Nat} {S : ByteArray} {p : Nat} (h : Cu w c S p) (hf : FrS R T w w') (hc : c < R) (ht : ¬ T c) : Cu w' c S p := hf.blk h hc ht
theorem Cu.cells {w : World} {c : Nat} {S : ByteArray} {p : Nat} (h : Cu w c S p) : w.cell? ⟨c, 0, none⟩ = some (.string S) ∧ w.cell? ⟨c, 1, none⟩ = some (.int .i64 p) ∧ w.frozen? ⟨c, 1, none⟩ = false ∧ c < w.heap.size := by
  refine ⟨?_, ?_, Blk.frozen h 1, Blk.lt h⟩
  · have := Blk.cell h 0; simpa using this
  · have := Blk.cell h 1; simpa using this
theorem Cu.put {w : World} {c : Nat} {S : ByteArray} {p : Nat} (h : Cu w c S p) (q : Nat) : Cu (w.setCell ⟨c, 1, none⟩ (.int .i64 q)) c S q := by
  have := Blk.put h 1 (.int .i64 (q : Int))
  simpa [Cu] using this
theorem Pk.fr {R R' b : Nat} {T : Nat → Prop} {l : List UInt8} {w w' : World} (h : Pk R b l w) (hf : FrS R' T w w') (hR : w.heap.size ≤ R') (ht : ∀ k, T k → k ≠ b ∧ k < R) : Pk R b l w' :=
  pk_keep h fun k hk h2 => hf.block k (by omega) fun e => by have := ht k e; omega
end Go.Proofs.YthbdhijkdldmoaaGreatDoor
namespace Go.Proofs.YthbdhijkdldmoaaGreatDoor
open Go.RowKit Tk Ob
abbrev tObj : Nat := 25
theorem eOb : ElemK Tryz.prog 23 25 (.agg #[.int .i64 0, .int .i64 0, .string ⟨#[]⟩, .slice none 0 0, .slice none 0 0]) 5 80 := ElemK.mk_ Tryz.underlying23 (by kernel_rfl) rfl
theorem eSt : ElemT Tryz.prog 22 9 (.string ⟨#[]⟩) 16 := ElemT.mk_ Tryz.underlying22 (by kernel_rfl) rfl
/-- The blocks of an object's parts, apart from the two rows. -/
def PT (B : Nat) (kv dv : Value) (k : Nat) : Prop := B ≤ k ∧ kv.ownBlock ≠ some k ∧ dv.ownBlock ≠ some k
/-- The rows of keys and of elements of an object that is being made. -/
structure TrR (w : World) (B : Nat) (kv dv : Value) (ks : List Tk.Src) (os : List Ox) (vs : List V5) : Prop where
  len : vs.length = os.length
  ok : w.ownsRow B 9 1 kv ks.length (strs ks)
  od : w.ownsRow B 25 5 dv os.length (v5cs vs)
  ne : ∀ k, kv.ownBlock = some k → dv.ownBlock ≠ some k
  kid : ∀ j (h : j < os.length) (h2 : j < vs.length), ObjV (PT B kv dv) w vs[j] os[j]
section
variable {w w' : World} {B R : Nat} {kv dv : Value} {ks : List Tk.Src} {os : List Ox} {vs : List V5} {T : Nat → Prop}
theorem own_frs {base n size : Nat} {e : TypeId} {v : Value} {xs : List Value} (h : w.ownsRow base e size v n xs) (hf : FrS R T w w') (hR : w.heap.size ≤ R) (hT : ∀ k, T k → k < base) : w'.ownsRow base e size v n xs :=
  hf.own h fun k hk => by
    obtain ⟨h1, h2⟩ := own_lt h k hk
    exact ⟨by omega, fun e => by have := hT k e; omega⟩
theorem TrR.fr (h : TrR w B kv dv ks os vs) (hf : FrS R T w w') (hR : w.heap.size ≤ R) (hT : ∀ k, T k → k < B) : TrR w' B kv dv ks os vs :=
  ⟨h.len, own_frs h.ok hf hR hT, own_frs h.od hf hR hT, h.ne, fun j a b => (h.kid j a b).keep hf.size fun k hk hl => hf.block k (by omega) fun e => by have := hT k e; have := hk.1; omega⟩
theorem TrR.drew (h : TrR w B kv dv ks os vs) : TrR w.drew B kv dv ks os vs := h.fr (FrS.refl w.heap.size (fun _ => False) w).drew (Nat.le_refl _) fun _ h => h.elim
theorem TrR.alloc (h : TrR w B kv dv ks os vs) (o : Obj) : TrR (w.alloc o) B kv dv ks os vs := h.fr ((FrS.refl w.heap.size (fun _ => False) w).alloc (Nat.le_refl _) o) (Nat.le_refl _) fun _ h => h.elim
theorem TrR.nil (w : World) (B : Nat) : TrR w B (.slice none 0 0) (.slice none 0 0) [] [] [] :=
  ⟨rfl, World.ownsRow_nil _ _ _ _, World.ownsRow_nil _ _ _ _, fun _ h => by simp [Value.ownBlock] at h, fun j h => absurd h (by simp)⟩
/-- One more element behind the others. -/
theorem TrR.push {w0 w1 w2 : World} {dv' : Value} {u : V5} {o : Ox} {ob : Obj} (h : TrR w0 B kv dv ks os vs) (hB : B ≤ w0.heap.size) (hf : FrS w0.heap.size T w0 w1) (hT : ∀ k, T k → k < B) (hu : ObjV (fun k => w0.heap.size ≤ k) w1 u o)
    (hown : w2.ownsRow B 25 5 dv' (os.length + 1) (v5cs vs ++ u.cells)) (hg : (w1.alloc ob).grownBy w2 dv.ownBlock) (hv : dv'.ownBlock = dv.ownBlock ∨ dv'.ownBlock = some (w1.alloc ob).heap.size) :
    TrR w2 B kv dv' ks (os ++ [o]) (vs ++ [u]) := by
  have h1 := h.fr hf (Nat.le_refl _) hT
  have h2 := h1.alloc ob
  have hs := hf.size
  have hne : ∀ k, kv.ownBlock = some k → dv'.ownBlock ≠ some k := fun k hk e => by
    rcases hv with hv | hv
    · exact h.ne k hk (hv ▸ e)
    · obtain ⟨_, hlt⟩ := own_lt h2.ok k hk
      rw [hv] at e; cases e; omega
  have keepP : ∀ {P : Nat → Prop} {v : V5} {x : Ox}, (∀ k, P k → k < w1.heap.size → B ≤ k ∧ kv.ownBlock ≠ some k ∧ dv.ownBlock ≠ some k) → ObjV P w1 v x → ObjV (PT B kv dv') w2 v x := fun {P v x} hP hx => by
    have a1 : ObjV (fun k => P k ∧ k < w1.heap.size) w1 v x := hx.mono fun k hk hp => ⟨hp, hk⟩
    have a2 := a1.alloc ob
    have a3 := a2.keep (w' := w2) hg.size fun k hk hl => hg.block k hl fun e => (hP k hk.1 hk.2).2.2 e.symm
    refine a3.mono fun k _ hk => ⟨(hP k hk.1 hk.2).1, (hP k hk.1 hk.2).2.1, fun e => ?_⟩
    rcases hv with hv | hv
    · exact (hP k hk.1 hk.2).2.2 (hv ▸ e)
    · have h3 : (w1.alloc ob).heap.size = w1.heap.size + 1 := by simp
      rw [hv] at e; cases e; have := hk.2; omega
  refine ⟨by simp [h.len], ?_, by rw [v5cs_snoc, List.length_append, List.length_singleton]; exact hown, hne, fun j a b => ?_⟩
  · refine h2.ok.kept hg ?_
    cases hk : kv.ownBlock with
    | none => exact .inl rfl
    | some k => exact .inr fun e => h.ne k hk e.symm
  · rw [List.length_append, List.length_singleton] at a b
    rcases Nat.lt_or_ge j os.length with hj | hj
    · have hjv : j < vs.length := by rw [h.len]; exact hj
      rw [List.getElem_append_left hj, List.getElem_append_left hjv]
      exact keepP (fun k hk _ => hk) (h1.kid j hj hjv)
    · obtain rfl : j = os.length := by omega
      rw [List.getElem_append_right (Nat.le_refl _), List.getElem_append_right (by rw [h.len]; exact Nat.le_refl _)]
      simp only [Nat.sub_self, h.len, List.getElem_singleton]
      exact keepP (fun k hk hl => ⟨by omega, fun e => by have := (own_lt h.ok k e).2; omega, fun e => by have := (own_lt h.od k e).2; omega⟩) hu
/-- The object that the rows make. -/
theorem TrR.shut (h : TrR w B kv dv ks os vs) (k i : Int) (t : Tk.Src) : ObjV (fun k => B ≤ k) w ⟨.int .i64 k, .int .i64 i, .string ⟨t.toArray⟩, kv, dv⟩ (.mk k i t ks os) := by
  have hk : w.ownsRow B 9 1 kv (strs ks).length (strs ks) := by simpa [strs] using h.ok
  exact .mk k i t ks os kv dv vs ((Sl.of_own hk).mono fun _ _ a => a.2) ((SlM.of_own h.od).mono fun _ _ a => a.2) h.len fun j a b => (h.kid j a b).mono fun _ _ x => x.1
end
end Go.Proofs.YthbdhijkdldmoaaGreatDoor
namespace Go.Proofs.YthbdhijkdldmoaaGreatDoor
open Go.RowKit
theorem setCells_block (g : Nat) : ∀ (vs : List Value) (o : Nat) (w : World) (cur : Array Value) (t : TypeId) (f : Nat × Nat), w.heap[g]? = some (.cells cur t f) → ∃ cur', (w.setCells g o vs).heap[g]? = some (.cells cur' t f) ∧ cur'.size = cur.size
  | [], _, _, cur, _, _, h => ⟨cur, h, rfl⟩
  | v :: r, o, w, cur, t, f, h => by
    have h1 : (w.setCell ⟨g, o, none⟩ v).heap[g]? = some (.cells (cur.setIfInBounds o v) t f) := by
      simp [World.setCell, Array.getElem?_modify, h]
    obtain ⟨cur', h2, h3⟩ := setCells_block g r (o + 1) _ _ t f h1
    exact ⟨cur', h2, by rw [h3]; simp⟩
theorem setCells_other (g : Nat) : ∀ (vs : List Value) (o : Nat) (w : World) (k : Nat), k ≠ g → (w.setCells g o vs).heap[k]? = w.heap[k]?
  | [], _, _, _, _ => rfl
  | v :: r, o, w, k, h => by
    rw [World.setCells, setCells_other g r (o + 1) _ k h]
    exact Below.heap_setCell w ⟨g, o, none⟩ v k h
theorem setCells_rest (g : Nat) : ∀ (vs : List Value) (o : Nat) (w : World), (w.setCells g o vs).os = w.os ∧ (w.setCells g o vs).tape = w.tape ∧ (w.setCells g o vs).output = w.output ∧ (w.setCells g o vs).heap.size = w.heap.size
  | [], _, _ => ⟨rfl, rfl, rfl, rfl⟩
  | v :: r, o, w => by
    obtain ⟨a, b, c, d⟩ := setCells_rest g r (o + 1) (w.setCell ⟨g, o, none⟩ v)
    have h := (Below.refl 0 w).setCell (p := ⟨g, o, none⟩) (Nat.zero_le _) v
    exact ⟨a.trans h.os, b.trans h.tape, c.trans h.output, d.trans (by simp [World.setCell])⟩
theorem setCells_frs {R g : Nat} {S : Nat → Prop} {a w : World} (h : FrS R S a w) (hg : R ≤ g ∨ S g) (o : Nat) (vs : List Value) : FrS R S a (w.setCells g o vs) := by
  obtain ⟨e1, e2, e3, e4⟩ := setCells_rest g vs o w
  refine ⟨e1.trans h.os, e2.trans h.tape, e3.trans h.output, by rw [e4]; exact h.size, fun k hk hs => ?_⟩
  rw [setCells_other g vs o w k fun e => ?_]
  · exact h.block k hk hs
  · rcases hg with hg | hg
    · omega
    · exact hs (e ▸ hg)
theorem setCells_heap (g : Nat) : ∀ (vs : List Value) (o : Nat) (w w' : World), w.heap = w'.heap → (w.setCells g o vs).heap = (w'.setCells g o vs).heap
  | [], _, _, _, h => h
  | v :: r, o, w, w', h => setCells_heap g r (o + 1) _ _ (by simp [World.setCell, h])
theorem zeroCells_size (zs : Array Value) : ∀ n, (Builtin.zeroCells zs n).size = n * zs.size := by
  intro n
  simp [Builtin.zeroCells]
/-- A list that was opened for some more. -/
theorem ins_list {xs us : List Value} {C : Array Value} {a N K : Nat} (hxs : xs.length = N) (hus : us.length = K) (ha : a ≤ N) (h1 : ∀ k, k < a → C[k]? = xs[k]?) (h2 : ∀ k, k < K → C[a + k]? = us[k]?) (h3 : ∀ k, a ≤ k → k < N → C[k + K]? = xs[k]?) :
    C.toList.take (N + K) = xs.take a ++ us ++ xs.drop a := by
  apply List.ext_getElem?
  intro k
  have ht : (xs.take a).length = a := by rw [List.length_take]; omega
  by_cases hk : k < N + K
  · rw [List.getElem?_take_of_lt hk, Array.getElem?_toList]
    by_cases k1 : k < a
    · rw [List.append_assoc, List.getElem?_append_left (by omega), List.getElem?_take_of_lt k1, h1 k k1]
    · by_cases k2 : k < a + K
      · rw [List.append_assoc, List.getElem?_append_right (by omega), List.getElem?_append_left (by omega), ht]
        have := h2 (k - a) (by omega)
        rwa [show a + (k - a) = k by omega] at this
      · rw [List.getElem?_append_right (by rw [List.length_append, ht]; omega), List.length_append, ht, hus, List.getElem?_drop]
        have := h3 (k - K) (by omega) (by omega)
        rw [show k - K + K = k by omega] at this
        rw [this]; congr 1; omega
  · rw [List.getElem?_eq_none (by rw [List.length_take]; omega), List.getElem?_eq_none (by rw [List.length_append, List.length_append, List.length_drop, ht]; omega)]
/-- 'copy' of elements of several cells. -/
theorem run_copy_cellsK {P : Program} (w : World) (dT sT ty elem : TypeId) (b o dLen dCap : Nat) (a : Addr) (sLen sCap K : Nat) (cs : List Value)
    (hu : P.underlying dT = some (.slice elem)) (hs : (P.info? elem).map (·.size) = some K) (hn : cs.length = Nat.min sLen dLen * K)
    (hsrc : ∀ j v, cs[j]? = some v → w.cell? (a.add j) = some v) (hc : ∀ j, j < cs.length → (w.cell? ⟨b, o + j, none⟩).isSome = true) (hf : ∀ j, j < cs.length → w.frozen? ⟨b, o + j, none⟩ = false) (h1 : ∀ v ∈ cs, v.oneCell' = true) :
    (Builtin.copy_ #[dT, sT] ty #[.slice (some ⟨b, o, none⟩) dLen dCap, .slice (some a) sLen sCap]).run P w = .ok (goInt (Nat.min sLen dLen)) (w.setCells b o cs) := by
  have hl := run_loadCells_list (P := P) w a cs hsrc
  have hst := run_storeCells_cells (P := P) b o cs 0 w (by simpa using hc) (by simpa using hf) h1
  cases hq : P.info? elem with
  | none => simp [hq] at hs
  | some i =>
    have hi : i.size = K := by simpa [hq] using hs
    simp [Builtin.copy_, run_underlying hu, Builtin.lenOf, Builtin.firstCells, sizeOf, typeInfo, hq, hi, ← hn, hl, hst]
/-- What an insertion leaves. -/
def InsPost (B : Nat) (e : TypeId) (K : Nat) (v : Value) (n i : Nat) (xs us : List Value) (w : World) (r : Ending) (w' : World) : Prop :=
  ∃ v', r = .returned v' ∧ w'.ownsRow B e K v' (n + 1) (xs.take (i * K) ++ us ++ xs.drop (i * K)) ∧ FrS w.heap.size (fun k => v.ownBlock = some k) w w' ∧ (v'.ownBlock = v.ownBlock ∨ ∃ k, v'.ownBlock = some k ∧ w.heap.size ≤ k)
end Go.Proofs.YthbdhijkdldmoaaGreatDoor
namespace Go.Proofs.YthbdhijkdldmoaaGreatDoor
namespace Ob
open Tk
/-- The place of a key among sorted ones, and whether it is there. -/
def posK : List Tk.Src → Tk.Src → Nat × Bool
  | [], _ => (0, false)
  | k :: r, x => if ltB k x then (1 + (posK r x).1, (posK r x).2) else (0, decide (k = x))
/-- The next token, and what is left behind it; kind 0 at the end. -/
def nxP (l : Tk.Src) : Option (BTok × Tk.Src) :=
  match l.drop (skipN false l) with
  | [] => some (⟨0, 0, []⟩, [])
  | x :: r => match one (x :: r) with
    | .error _ => none
    | .ok (t, n) => some (t, (x :: r).drop n)
def leafP (t : BTok) : Option Ox :=
  if t.kind = 1 then some (.mk 2 t.int [] [] []) else if t.kind = 2 then some (.mk 3 0 t.text [] []) else if t.kind = 3 then some (.mk 4 0 t.text [] [])
  else if t.kind = 4 then some (.mk 5 t.int [] [] [])
  else if t.text = [110, 117, 108, 108] then some (.mk 0 0 [] [] []) else if t.text = [116, 114, 117, 101] then some (.mk 1 1 [] [] [])
  else if t.text = [102, 97, 108, 115, 101] then some (.mk 1 0 [] [] []) else none
def listP (g : BTok → Tk.Src → Option (Ox × Tk.Src)) : Nat → List Ox → Tk.Src → Option (List Ox × Tk.Src)
  | 0, _, _ => none
  | f + 1, acc, l => match nxP l with
    | none => none
    | some (t, r) => if t.kind = 7 then some (acc, r) else if t.kind = 0 then none else if acc.length = 256 then none
      else match g t r with
        | none => none
        | some (o, r2) => listP g f (acc ++ [o]) r2
def dictP (g : BTok → Tk.Src → Option (Ox × Tk.Src)) : Nat → List Tk.Src → List Ox → Tk.Src → Option ((List Tk.Src × List Ox) × Tk.Src)
  | 0, _, _, _ => none
  | f + 1, ks, os, l => match nxP l with
    | none => none
    | some (t, r) => if t.kind = 9 then some ((ks, os), r) else if t.kind = 0 then none else if os.length = 256 then none
      else if t.kind ≠ 2 then none else if (posK ks t.text).2 then none
      else match nxP r with
        | none => none
        | some (t2, r2) => match g t2 r2 with
          | none => none
          | some (o, r3) => dictP g f (ks.insertIdx (posK ks t.text).1 t.text) (os.insertIdx (posK ks t.text).1 o) r3
def objP : Nat → BTok → Tk.Src → Option (Ox × Tk.Src)
  | 0, _, _ => none
  | d + 1, t, l =>
    if t.kind = 0 ∨ t.kind = 7 ∨ t.kind = 9 then none
    else if t.kind = 6 then (match listP (objP d) 257 [] l with | none => none | some (os, r) => some (.mk 6 0 [] [] os, r))
    else if t.kind = 8 then (match dictP (objP d) 257 [] [] l with | none => none | some ((ks, os), r) => some (.mk 7 0 [] ks os, r))
    else match leafP t with | none => none | some o => some (o, l)
def parseO (s : Tk.Src) : Option Ox :=
  if 8192 < s.length then none else match nxP s with
    | none => none
    | some (t, l) => match objP 12 t l with
      | none => none
      | some (o, l2) => match nxP l2 with
        | none => none
        | some (t2, _) => if t2.kind ≠ 0 then none else match printO o with
          | .error _ => none
          | .ok _ => some o
/-! The order of keys. -/
theorem ltB_irrefl : ∀ a : Tk.Src, ltB a a = false
  | [] => rfl
  | a :: r => by
    simp only [ltB]
    rw [if_neg (by exact fun h => absurd h (UInt8.lt_irrefl a)), if_neg (by exact fun h => absurd h (UInt8.lt_irrefl a))]
    exact ltB_irrefl r
theorem ltB_trans : ∀ a b c : Tk.Src, ltB a b = true → ltB b c = true → ltB a c = true
  | [], [], _, h, _ => by cases h
  | [], _ :: _, [], _, h => by cases h
  | [], _ :: _, _ :: _, _, _ => rfl
  | _ :: _, [], _, h, _ => by cases h
  | _ :: _, _ :: _, [], _, h => by cases h
  | a :: r, b :: s, c :: t, h1, h2 => by
    simp only [ltB] at h1 h2 ⊢
    simp only [UInt8.lt_iff_toNat_lt] at h1 h2 ⊢
    by_cases hab : a.toNat < b.toNat
    · by_cases hbc : b.toNat < c.toNat
      · rw [if_pos (by omega)]
      · rw [if_neg hbc] at h2
        by_cases hcb : c.toNat < b.toNat
        · rw [if_pos hcb] at h2; cases h2
        · rw [if_pos (by omega)]
    · rw [if_neg hab] at h1
      by_cases hba : b.toNat < a.toNat
      · rw [if_pos hba] at h1; cases h1
      · rw [if_neg hba] at h1
        by_cases hbc : b.toNat < c.toNat
        · rw [if_pos (by omega)]
        · rw [if_neg hbc] at h2
          by_cases hcb : c.toNat < b.toNat
          · rw [if_pos hcb] at h2; cases h2
          · rw [if_neg hcb] at h2
            rw [if_neg (by omega), if_neg (by omega)]
            exact ltB_trans r s t h1 h2
theorem ltB_or : ∀ a b : Tk.Src, ltB a b = false → ltB b a = false → a = b
  | [], [], _, _ => rfl
  | [], _ :: _, h, _ => by cases h
  | _ :: _, [], _, h => by cases h
  | a :: r, b :: s, h1, h2 => by
    simp only [ltB, UInt8.lt_iff_toNat_lt] at h1 h2
    by_cases hab : a.toNat < b.toNat
    · rw [if_pos hab] at h1; cases h1
    · by_cases hba : b.toNat < a.toNat
      · rw [if_pos hba] at h2; cases h2
      · rw [if_neg hab, if_neg hba] at h1
        rw [if_neg hba, if_neg hab] at h2
        have he : a = b := UInt8.toNat_inj.1 (by omega)
        rw [ltB_or r s h1 h2, he]
theorem ltB_asymm {a b : Tk.Src} (h : ltB a b = true) : ltB b a = false := by
  cases h2 : ltB b a with
  | false => rfl
  | true => have := ltB_trans a b a h h2; rw [ltB_irrefl] at this; cases this
theorem ltB_ne {a b : Tk.Src} (h : ltB a b = true) : a ≠ b := fun e => by rw [e, ltB_irrefl] at h; cases h
def Sorted (ks : List Tk.Src) : Prop := ks.Pairwise fun a b => ltB a b = true
theorem pos_le : ∀ (ks : List Tk.Src) (x : Tk.Src), (posK ks x).1 ≤ ks.length
  | [], _ => Nat.le_refl _
  | k :: r, x => by
    simp only [posK]
    split
    · have := pos_le r x; simp only [List.length_cons]; omega
    · exact Nat.zero_le _
theorem pos_end : ∀ (ks : List Tk.Src) (x : Tk.Src), (∀ k ∈ ks, ltB k x = true) → posK ks x = (ks.length, false)
  | [], _, _ => rfl
  | k :: r, x, h => by
    simp only [posK]
    rw [if_pos (h k (by simp)), pos_end r x fun k hk => h k (by simp [hk])]
    simp only [List.length_cons]; rw [Nat.add_comm]
/-! Tokens that are left. -/
def Toks (l : Tk.Src) (ts : List BTok) : Prop := ∃ (us : List Tok) (p f : Nat), scanF f p l = .ok us ∧ l.length < f ∧ us.map (·.b) = ts
theorem nx_end {l : Tk.Src} (h : Toks l []) : nxP l = some (⟨0, 0, []⟩, []) := by
  obtain ⟨us, p, f, h1, h2, h3⟩ := h
  rcases scanF_left h1 h2 with ⟨rfl, hs⟩ | ⟨t, n, ts', x, r, a, b, rfl, _⟩
  · unfold nxP; rw [hs, List.drop_length]
  · simp at h3
theorem nx_tok {l : Tk.Src} {t : BTok} {ts : List BTok} (h : Toks l (t :: ts)) : ∃ l', nxP l = some (t, l') ∧ Toks l' ts := by
  obtain ⟨us, p, f, h1, h2, h3⟩ := h
  rcases scanF_left h1 h2 with ⟨rfl, hs⟩ | ⟨u, n, ts', x, r, a, b, rfl, he, hw, hd, w1, w2, hb, h4⟩
  · simp at h3
  · rw [List.map_cons, List.cons.injEq] at h3
    obtain ⟨e1, e2⟩ := h3
    dsimp only at e1
    subst e1
    refine ⟨b, ?_, ts', _, f, h4, by omega, e2⟩
    unfold nxP
    rw [hd]
    dsimp only
    have h5 := hw.same b hw.stop
    rw [← hw.eq] at h5
    rw [h5]
    dsimp only
    rw [hw.eq, hw.len, List.drop_left]
/-! What is printed. -/
theorem nodeE_zero {o : Ox} {d : Nat} (h : nodeE o d = 0) : 0 ≤ o.kind ∧ o.kind ≤ 7 ∧ d ≤ 12 ∧ (o.int ≠ 0 → o.kind = 1 ∨ o.kind = 2 ∨ o.kind = 5) ∧ (o.text ≠ [] → o.kind = 3 ∨ o.kind = 4) ∧ (0 < o.kids.length → o.kind = 6 ∨ o.kind = 7) ∧
    (o.kind = 7 → o.keys.length = o.kids.length) ∧ (o.kind ≠ 7 → o.keys = []) ∧ (o.kind = 1 → o.int = 0 ∨ o.int = 1) ∧ o.kids.length ≤ 256 ∧ keysE none o.keys = 0 := by
  unfold nodeE at h
  dsimp only at h
  by_cases h1 : o.kind < 0 ∨ 7 < o.kind
  · rw [if_pos h1] at h; omega
  rw [if_neg h1] at h
  by_cases h2 : 12 < d
  · rw [if_pos h2] at h; omega
  rw [if_neg h2] at h
  split at h
  · omega
  rename_i h3
  split at h
  · omega
  rename_i h4
  split at h
  · omega
  rename_i h5
  split at h
  · omega
  rename_i h6
  refine ⟨by omega, by omega, by omega, fun a => ?_, fun a => ?_, fun a => ?_, fun a => ?_, fun a => ?_, fun a => ?_, by omega, h⟩
  · exact Classical.byContradiction fun hn => h3 (.inl ⟨a, hn⟩)
  · exact Classical.byContradiction fun hn => h3 (.inr (.inl ⟨a, hn⟩))
  · exact Classical.byContradiction fun hn => h3 (.inr (.inr ⟨a, hn⟩))
  · exact Classical.byContradiction fun hn => h4 (.inl ⟨a, hn⟩)
  · exact List.eq_nil_of_length_eq_zero (Classical.byContradiction fun hn => h4 (.inr ⟨a, by omega⟩))
  · by_cases e0 : o.int = 0
    · exact .inl e0
    · exact .inr (Classical.byContradiction fun hn => h5 ⟨a, e0, hn⟩)
theorem nameE_zero {s : Tk.Src} (h : nameE s = 0) : s ≠ [] ∧ s.length ≤ 31 ∧ ∀ c ∈ s, c ≠ 0 := by
  unfold nameE at h
  split at h
  · omega
  · rename_i h1
    split at h
    · omega
    · refine ⟨fun e => h1 (.inl (by rw [e]; rfl)), by omega, fun c hc e => h1 (.inr ?_)⟩
      rw [List.any_eq_true]; exact ⟨c, hc, by simp [e]⟩
theorem keysE_zero : ∀ (ks : List Tk.Src) (p : Option Tk.Src), keysE p ks = 0 → (∀ k ∈ ks, nameE k = 0) ∧ (∀ q, p = some q → ∀ k ∈ ks, ltB q k = true) ∧ Sorted ks
  | [], p, _ => ⟨(fun _ h => by cases h), (fun _ _ _ h => by cases h), List.Pairwise.nil⟩
  | k :: r, p, h => by
    simp only [keysE] at h
    by_cases h1 : nameE k ≠ 0
    · rw [if_pos h1] at h; exact absurd h h1
    rw [if_neg h1] at h
    have h1' : nameE k = 0 := Classical.byContradiction h1
    have hp : ∀ q, p = some q → ltB q k = true := fun q hq => by
      subst hq
      cases hqk : ltB q k with
      | true => rfl
      | false => simp [hqk] at h
    have h' : keysE (some k) r = 0 := by
      cases p with
      | none => simpa using h
      | some q => have hq := hp q rfl; simpa [hq] using h
    · obtain ⟨a, b, c⟩ := keysE_zero r (some k) h'
      have b' := b k rfl
      refine ⟨fun x hx => ?_, fun q hq x hx => ?_, List.Pairwise.cons b' c⟩
      · rcases List.mem_cons.1 hx with rfl | hx
        · exact h1'
        · exact a x hx
      · have hqk := hp q hq
        rcases List.mem_cons.1 hx with rfl | hx
        · exact hqk
        · exact ltB_trans q k x hqk (b' x hx)
theorem leaf_valid {o : Ox} {d : Nat} (hn : nodeE o d = 0) (hk : o.kind < 6) (h : tokE (leafT o) = 0) : VTok (leafT o) := by
  obtain ⟨n1, n2, _⟩ := nodeE_zero hn
  obtain ⟨k, i, t, ks, os⟩ := o
  dsimp only [Ox.kind] at n1 n2 hk
  have hk' : k = 0 ∨ k = 1 ∨ k = 2 ∨ k = 3 ∨ k = 4 ∨ k = 5 := by omega
  rcases hk' with rfl | rfl | rfl | rfl | rfl | rfl
  · exact .word _ rfl
  · show VTok ⟨5, 0, if i = 1 then [116, 114, 117, 101] else [102, 97, 108, 115, 101]⟩
    split
    · exact .word _ rfl
    · exact .word _ rfl
  · have h' : (if i < -2147483647 ∨ 2147483647 < i then (3 : Int) else 0) = 0 := h
    show VTok ⟨1, i, []⟩
    split at h'
    · omega
    · exact .int i (by omega) (by omega)
  · have h' : nameE t = 0 := h
    obtain ⟨a, b, c⟩ := nameE_zero h'
    exact .name t a b c
  · have h' : (if 1024 < t.length then (2 : Int) else 0) = 0 := h
    show VTok ⟨3, 0, t⟩
    split at h'
    · omega
    · exact .text t (by omega)
  · have h' : (if i < 1 ∨ 255 < i then (3 : Int) else 0) = 0 := h
    show VTok ⟨4, i, []⟩
    split at h'
    · omega
    · obtain ⟨m, rfl⟩ : ∃ m : Nat, i = (m : Int) := ⟨i.toNat, by omega⟩
      exact .ref m (by omega) (by omega)
theorem leaf_back {o : Ox} {d : Nat} (hn : nodeE o d = 0) (hk : o.kind < 6) : leafP (leafT o) = some o ∧ (leafT o).kind ≠ 0 ∧ (leafT o).kind < 6 := by
  obtain ⟨n1, n2, _, n3, n4, n5, _, n6, n7, _, _⟩ := nodeE_zero hn
  obtain ⟨k, i, t, ks, os⟩ := o
  dsimp only [Ox.kind, Ox.int, Ox.text, Ox.keys, Ox.kids] at n1 n2 n3 n4 n5 n6 n7 hk
  have hks := n6 (by omega)
  have hos : os = [] := by
    cases os with
    | nil => rfl
    | cons o os => have := n5 (by simp); omega
  subst hks hos
  have hi : ¬ (k = 1 ∨ k = 2 ∨ k = 5) → i = 0 := fun hh => Classical.byContradiction fun h0 => hh (n3 h0)
  have ht : ¬ (k = 3 ∨ k = 4) → t = [] := fun hh => Classical.byContradiction fun h0 => hh (n4 h0)
  have hk' : k = 0 ∨ k = 1 ∨ k = 2 ∨ k = 3 ∨ k = 4 ∨ k = 5 := by omega
  rcases hk' with rfl | rfl | rfl | rfl | rfl | rfl
  · rw [hi (by omega), ht (by omega)]; exact ⟨rfl, by decide, by decide⟩
  · rw [ht (by omega)]
    rcases n7 rfl with rfl | rfl
    · exact ⟨rfl, by decide, by decide⟩
    · exact ⟨rfl, by decide, by decide⟩
  · rw [ht (by omega)]; exact ⟨rfl, (by show (1 : Int) ≠ 0; decide), (by show (1 : Int) < 6; decide)⟩
  · rw [hi (by omega)]; exact ⟨rfl, (by show (2 : Int) ≠ 0; decide), (by show (2 : Int) < 6; decide)⟩
  · rw [hi (by omega)]; exact ⟨rfl, (by show (3 : Int) ≠ 0; decide), (by show (3 : Int) < 6; decide)⟩
  · rw [ht (by omega)]; exact ⟨rfl, (by show (4 : Int) ≠ 0; decide), (by show (4 : Int) < 6; decide)⟩
/-- What addF leaves of an object: a leaf's token, or brackets around the elements' tokens. -/
theorem addF_cases {f d n m : Nat} {o : Ox} {ts : List BTok} (h : addF (f + 1) d o n = .ok (ts, m)) : n < 4096 ∧ nodeE o d = 0 ∧
    ((o.kind < 6 ∧ tokE (leafT o) = 0 ∧ ts = [leafT o] ∧ m = n + 1) ∨
    (6 ≤ o.kind ∧ ∃ l, kidsF (addF f (d + 1)) (decide (o.kind = 7)) o.keys o.kids (n + 1) = .ok (l, m) ∧ ts = [⟨if o.kind = 7 then 8 else 6, 0, []⟩] ++ l ++ [⟨if o.kind = 7 then 9 else 7, 0, []⟩])) := by
  simp only [addF] at h
  by_cases h1 : 4096 < n + 1
  · rw [if_pos h1] at h; cases h
  rw [if_neg h1] at h
  by_cases h2 : nodeE o d ≠ 0
  · rw [if_pos h2] at h; cases h
  rw [if_neg h2] at h
  have h2' : nodeE o d = 0 := Classical.byContradiction h2
  refine ⟨by omega, h2', ?_⟩
  by_cases h3 : o.kind < 6
  · rw [if_pos h3] at h
    split at h
    · cases h
    · rename_i h4
      cases h
      exact .inl ⟨h3, Classical.byContradiction h4, rfl, rfl⟩
  · rw [if_neg h3] at h
    split at h
    · cases h
    · rename_i l n2 hk
      cases h
      exact .inr ⟨by omega, l, hk, rfl⟩
theorem kidsF_cons {g : Ox → Nat → Except Int (List BTok × Nat)} {dict : Bool} {ks : List Tk.Src} {o : Ox} {os : List Ox} {n m : Nat} {l : List BTok} (h : kidsF g dict ks (o :: os) n = .ok (l, m)) :
    ∃ l1 n1 l2, g o n = .ok (l1, n1) ∧ kidsF g dict ks.tail os n1 = .ok (l2, m) ∧ l = (if dict then [⟨2, 0, ks.headD []⟩] else []) ++ (l1 ++ l2) := by
  simp only [kidsF] at h
  split at h
  · cases h
  · rename_i l1 n1 h1
    split at h
    · cases h
    · rename_i l2 n2 h2
      cases h
      exact ⟨l1, n1, l2, h1, h2, rfl⟩
theorem kids_valid {g : Ox → Nat → Except Int (List BTok × Nat)} (hg : ∀ o n l m, g o n = .ok (l, m) → ∀ t ∈ l, VTok t) {dict : Bool} : ∀ (os : List Ox) (ks : List Tk.Src) (n m : Nat) (l : List BTok), (dict = true → ks.length = os.length ∧ ∀ k ∈ ks, nameE k = 0) →
    kidsF g dict ks os n = .ok (l, m) → ∀ t ∈ l, VTok t
  | [], ks, n, m, l, _, h => by cases h; exact fun _ h => by cases h
  | o :: os, ks, n, m, l, hd, h => by
    obtain ⟨l1, n1, l2, h1, h2, rfl⟩ := kidsF_cons h
    have ih := kids_valid hg os ks.tail n1 m l2 (fun e => by
      obtain ⟨a, b⟩ := hd e
      exact ⟨by simp at a ⊢; omega, fun k hk => b k (List.mem_of_mem_tail hk)⟩) h2
    intro t ht
    rcases List.mem_append.1 ht with ht | ht
    · cases dict with
      | false => cases ht
      | true =>
        obtain ⟨a, b⟩ := hd rfl
        cases ks with
        | nil => simp at a
        | cons k ks =>
          have : t = ⟨2, 0, k⟩ := by simpa using ht
          subst this
          obtain ⟨x, y, z⟩ := nameE_zero (b k (by simp))
          exact .name k x y z
    · rcases List.mem_append.1 ht with ht | ht
      · exact hg _ _ _ _ h1 t ht
      · exact ih t ht
theorem add_valid : ∀ (f d n m : Nat) (o : Ox) (ts : List BTok), addF f d o n = .ok (ts, m) → ∀ t ∈ ts, VTok t
  | 0, _, _, _, _, _, h => by cases h
  | f + 1, d, n, m, o, ts, h => by
    obtain ⟨_, hn, ⟨hk, ht, rfl, rfl⟩ | ⟨hk, l, hl, rfl⟩⟩ := addF_cases h
    · intro t hm
      have : t = leafT o := by simpa using hm
      subst this
      exact leaf_valid hn hk ht
    · obtain ⟨n1, n2, n3, _, _, _, n4, n5, _, _, n6⟩ := nodeE_zero hn
      have hv := kids_valid (fun o n l m h => add_valid f (d + 1) n m o l h) o.kids o.keys (n + 1) m l (fun e => ⟨n4 (by simpa using e), (keysE_zero _ _ n6).1⟩) hl
      intro t hm
      rcases List.mem_append.1 hm with hm | hm
      · rcases List.mem_append.1 hm with hm | hm
        · have : t = ⟨if o.kind = 7 then 8 else 6, 0, []⟩ := by simpa using hm
          subst this
          split
          · exact .dict
          · exact .list
        · exact hv t hm
      · have : t = ⟨if o.kind = 7 then 9 else 7, 0, []⟩ := by simpa using hm
        subst this
        split
        · exact .dictEnd
        · exact .listEnd
/-! Reading what was printed. -/
theorem insert_end {α : Type} : ∀ (l : List α) (x : α), l.insertIdx l.length x = l ++ [x]
  | [], _ => rfl
  | y :: l, x => by rw [List.length_cons, List.insertIdx_succ_cons, insert_end l x]; rfl
def Back (g : Ox → Nat → Except Int (List BTok × Nat)) (p : BTok → Tk.Src → Option (Ox × Tk.Src)) : Prop :=
  ∀ o n ts m, g o n = .ok (ts, m) → ∃ t rest, ts = t :: rest ∧ t.kind ≠ 0 ∧ t.kind ≠ 7 ∧ t.kind ≠ 9 ∧ ∀ l more, Toks l (rest ++ more) → ∃ l', p t l = some (o, l') ∧ Toks l' more
theorem list_back {g : Ox → Nat → Except Int (List BTok × Nat)} {p : BTok → Tk.Src → Option (Ox × Tk.Src)} (hg : Back g p) : ∀ (os acc : List Ox) (ks : List Tk.Src) (n m : Nat) (l : List BTok) (f : Nat) (s : Tk.Src) (more : List BTok), kidsF g false ks os n = .ok (l, m) →
    acc.length + os.length ≤ 256 → os.length < f → Toks s (l ++ ⟨7, 0, []⟩ :: more) → ∃ s', listP p f acc s = some (acc ++ os, s') ∧ Toks s' more
  | [], acc, ks, n, m, l, f, s, more, h, hl, hf, hs => by
    cases h
    obtain ⟨f, rfl⟩ : ∃ g, f = g + 1 := ⟨f - 1, by omega⟩
    obtain ⟨s', h1, h2⟩ := nx_tok hs
    refine ⟨s', ?_, h2⟩
    simp only [listP]
    rw [h1]
    dsimp only
    rw [if_pos rfl, List.append_nil]
  | o :: os, acc, ks, n, m, l, f, s, more, h, hl, hf, hs => by
    rw [List.length_cons] at hl hf
    obtain ⟨f, rfl⟩ : ∃ g, f = g + 1 := ⟨f - 1, by omega⟩
    obtain ⟨l1, n1, l2, h1, h2, rfl⟩ := kidsF_cons h
    obtain ⟨t, rest, rfl, k0, k7, k9, hb⟩ := hg _ _ _ _ h1
    have hs' : Toks s (t :: (rest ++ (l2 ++ ⟨7, 0, []⟩ :: more))) := by simpa using hs
    obtain ⟨s1, e1, e2⟩ := nx_tok hs'
    obtain ⟨s2, e3, e4⟩ := hb s1 _ e2
    obtain ⟨s3, e5, e6⟩ := list_back hg os (acc ++ [o]) ks.tail n1 m l2 f s2 more h2 (by rw [List.length_append, List.length_singleton]; omega) (by omega) e4
    refine ⟨s3, ?_, e6⟩
    simp only [listP]
    rw [e1]
    dsimp only
    rw [if_neg k7, if_neg k0, if_neg (by omega), e3]
    dsimp only
    rw [e5, List.append_assoc]; rfl
theorem dict_back {g : Ox → Nat → Except Int (List BTok × Nat)} {p : BTok → Tk.Src → Option (Ox × Tk.Src)} (hg : Back g p) : ∀ (os acc : List Ox) (ks ka : List Tk.Src) (n m : Nat) (l : List BTok) (f : Nat) (s : Tk.Src) (more : List BTok), kidsF g true ks os n = .ok (l, m) →
    ks.length = os.length → ka.length = acc.length → Sorted (ka ++ ks) → acc.length + os.length ≤ 256 → os.length < f → Toks s (l ++ ⟨9, 0, []⟩ :: more) → ∃ s', dictP p f ka acc s = some ((ka ++ ks, acc ++ os), s') ∧ Toks s' more
  | [], acc, ks, ka, n, m, l, f, s, more, h, hk, ha, hst, hl, hf, hs => by
    cases h
    obtain rfl : ks = [] := List.eq_nil_of_length_eq_zero hk
    obtain ⟨f, rfl⟩ : ∃ g, f = g + 1 := ⟨f - 1, by omega⟩
    obtain ⟨s', h1, h2⟩ := nx_tok hs
    refine ⟨s', ?_, h2⟩
    simp only [dictP]
    rw [h1]
    dsimp only
    rw [if_pos rfl, List.append_nil, List.append_nil]
  | o :: os, acc, [], ka, n, m, l, f, s, more, h, hk, ha, hst, hl, hf, hs => by simp at hk
  | o :: os, acc, k :: ks, ka, n, m, l, f, s, more, h, hk, ha, hst, hl, hf, hs => by
    rw [List.length_cons] at hl hf
    obtain ⟨f, rfl⟩ : ∃ g, f = g + 1 := ⟨f - 1, by omega⟩
    obtain ⟨l1, n1, l2, h1, h2, rfl⟩ := kidsF_cons h
    obtain ⟨t, rest, rfl, k0, k7, k9, hb⟩ := hg _ _ _ _ h1
    have hs' : Toks s (⟨2, 0, k⟩ :: (t :: (rest ++ (l2 ++ ⟨9, 0, []⟩ :: more)))) := by simpa using hs
    obtain ⟨s0, e0, e1'⟩ := nx_tok hs'
    obtain ⟨s1, e1, e2⟩ := nx_tok e1'
    obtain ⟨s2, e3, e4⟩ := hb s1 _ e2
    have hst2 : Sorted ((ka ++ [k]) ++ ks) := by simpa using hst
    have hlt : ∀ x ∈ ka, ltB x k = true := fun x hx => (List.pairwise_append.1 hst).2.2 x hx k (by simp)
    have hp := pos_end ka k hlt
    obtain ⟨s3, e5, e6⟩ := dict_back hg os (acc ++ [o]) ks (ka ++ [k]) n1 m l2 f s2 more (by simpa using h2) (by simpa using hk) (by simp [ha]) hst2 (by rw [List.length_append, List.length_singleton]; omega) (by omega) e4
    refine ⟨s3, ?_, e6⟩
    simp only [dictP]
    rw [e0]
    dsimp only
    rw [if_neg (by decide), if_neg (by decide), if_neg (by omega), if_neg (by simp), hp]
    dsimp only
    rw [if_neg (by decide), e1]
    dsimp only
    rw [e3]
    dsimp only
    have i2 : acc.insertIdx ka.length o = acc ++ [o] := by rw [ha, insert_end]
    rw [insert_end, i2, e5, List.append_assoc, List.append_assoc]; rfl
theorem obj_back : ∀ (f d : Nat), Back (addF f d) (objP f)
  | 0, _ => fun _ _ _ _ h => by cases h
  | f + 1, d => by
    intro o n ts m h
    obtain ⟨_, hn, ⟨hk, ht, rfl, rfl⟩ | ⟨hk, l, hl, rfl⟩⟩ := addF_cases h
    · obtain ⟨b1, b2, b3⟩ := leaf_back hn hk
      refine ⟨leafT o, [], rfl, b2, by omega, by omega, fun s more hs => ⟨s, ?_, hs⟩⟩
      simp only [objP]
      rw [if_neg (by omega), if_neg (by omega), if_neg (by omega), b1]
    · have hb := obj_back f (d + 1)
      obtain ⟨n1, n2, _, n3, n4, n5, n6, n7, _, n8, n9⟩ := nodeE_zero hn
      obtain ⟨k, i, t, ks, os⟩ := o
      dsimp only [Ox.kind, Ox.int, Ox.text, Ox.keys, Ox.kids] at n1 n2 n3 n4 n5 n6 n7 n8 n9 hk hl
      obtain rfl : i = 0 := Classical.byContradiction fun h0 => by have := n3 h0; omega
      obtain rfl : t = [] := Classical.byContradiction fun h0 => by have := n4 h0; omega
      have hk' : k = 6 ∨ k = 7 := by omega
      rcases hk' with rfl | rfl
      · have := n7 (by omega)
        subst this
        refine ⟨⟨6, 0, []⟩, l ++ [⟨7, 0, []⟩], rfl, by decide, by decide, by decide, fun s more hs => ?_⟩
        obtain ⟨s', e1, e2⟩ := list_back hb os [] [] (n + 1) m l 257 s more hl (by simpa using n8) (by omega) (by simpa using hs)
        refine ⟨s', ?_, e2⟩
        simp only [objP]
        rw [if_neg (by decide), if_pos trivial, e1]; rfl
      · refine ⟨⟨8, 0, []⟩, l ++ [⟨9, 0, []⟩], rfl, by decide, by decide, by decide, fun s more hs => ?_⟩
        obtain ⟨s', e1, e2⟩ := dict_back hb os [] ks [] (n + 1) m l 257 s more hl (n6 rfl) rfl (by simpa using (keysE_zero _ _ n9).2.2) (by simpa using n8) (by omega) (by simpa using hs)
        refine ⟨s', ?_, e2⟩
        simp only [objP]
        rw [if_neg (by decide), if_neg (by decide), if_pos trivial, e1]; rfl
/-- What Print writes is read as the same object. -/
theorem print_parse {o : Ox} {s : Tk.Src} (h : printO o = .ok s) : parseO s = some o ∧ s.length ≤ 8192 := by
  have h0 := h
  unfold printO at h
  cases ha : addF 12 1 o 0 with
  | error e => rw [ha] at h; cases h
  | ok r =>
    obtain ⟨ts, m⟩ := r
    rw [ha] at h
    dsimp only at h
    split at h
    · cases h
    · rename_i hl
      cases h
      have hv := add_valid _ _ _ _ _ _ ha
      obtain ⟨us, u1, u2⟩ := scan_join ts false 0 ((joinL false ts).length + 1) hv (by omega)
      obtain ⟨t, rest, rfl, _, _, _, hb⟩ := obj_back 12 1 o 0 ts m ha
      obtain ⟨s1, e1, e2⟩ := nx_tok ⟨us, 0, _, u1, by omega, u2⟩
      obtain ⟨s2, e3, e4⟩ := hb s1 [] (by simpa using e2)
      refine ⟨?_, by omega⟩
      unfold parseO
      rw [if_neg (by omega), e1]
      dsimp only
      rw [e3]
      dsimp only
      rw [nx_end e4]
      dsimp only
      rw [if_neg (by decide), h0]
theorem parse_print {s : Tk.Src} {o : Ox} (h : parseO s = some o) : ∃ t, printO o = .ok t := by
  unfold parseO at h
  split at h
  · cases h
  split at h
  · cases h
  split at h
  · cases h
  split at h
  · cases h
  split at h
  · cases h
  split at h
  · cases h
  · rename_i t ht
    cases h
    exact ⟨_, ht⟩
end Ob
end Go.Proofs.YthbdhijkdldmoaaGreatDoor
namespace Go.Proofs.YthbdhijkdldmoaaGreatDoor
open Go.RowKit Tk Ob
theorem ins_eq {α : Type} : ∀ (l : List α) (i : Nat) (x : α), i ≤ l.length → l.insertIdx i x = l.take i ++ x :: l.drop i
  | l, 0, x, _ => by simp
  | [], i + 1, x, h => by simp at h
  | a :: l, i + 1, x, h => by
    rw [List.insertIdx_succ_cons, ins_eq l i x (by simpa using h)]; rfl
theorem ins_len {α : Type} (l : List α) (i : Nat) (x : α) (h : i ≤ l.length) : (l.insertIdx i x).length = l.length + 1 := by
  rw [ins_eq l i x h, List.length_append, List.length_cons, List.length_take, List.length_drop]; omega
theorem ins_get {α : Type} (l : List α) (i j : Nat) (x : α) (h : i ≤ l.length) (hj : j < (l.insertIdx i x).length) : (l.insertIdx i x)[j] = if h1 : j < i then l[j]'(by omega) else if h2 : j = i then x else l[j - 1]'(by rw [ins_len l i x h] at hj; omega) := by
  have e : (l.insertIdx i x)[j]? = some ((l.insertIdx i x)[j]) := List.getElem?_eq_getElem hj
  have hz := ins_len l i x h
  have ht : (l.take i).length = i := by rw [List.length_take]; omega
  have key : (l.take i ++ x :: l.drop i)[j]? = some (if h1 : j < i then l[j]'(by omega) else if h2 : j = i then x else l[j - 1]'(by omega)) := by
    by_cases h1 : j < i
    · rw [List.getElem?_append_left (by omega), List.getElem?_take_of_lt h1, dif_pos h1, List.getElem?_eq_getElem]
    · rw [List.getElem?_append_right (by omega), ht, dif_neg h1]
      by_cases h2 : j = i
      · subst h2; simp
      · rw [dif_neg h2, show j - i = (j - i - 1) + 1 by omega, List.getElem?_cons_succ, List.getElem?_drop, show i + (j - i - 1) = j - 1 by omega, List.getElem?_eq_getElem]
  rw [← ins_eq l i x h, e] at key
  exact Option.some.inj key
theorem all2_ins {α β : Type} {R : α → β → Prop} {xs : List α} {ys : List β} (hl : xs.length = ys.length) (h : ∀ j (h1 : j < ys.length) (h2 : j < xs.length), R xs[j] ys[j]) (i : Nat) (hi : i ≤ ys.length) (a : α) (b : β) (hr : R a b) :
    ∀ j (h1 : j < (ys.insertIdx i b).length) (h2 : j < (xs.insertIdx i a).length), R (xs.insertIdx i a)[j] (ys.insertIdx i b)[j] := by
  intro j h1 h2
  rw [ins_get _ _ _ _ (by omega), ins_get _ _ _ _ hi]
  by_cases e1 : j < i
  · rw [dif_pos e1, dif_pos e1]; exact h j _ _
  · rw [dif_neg e1, dif_neg e1]
    by_cases e2 : j = i
    · rw [dif_pos e2, dif_pos e2]; exact hr
    · rw [dif_neg e2, dif_neg e2]; exact h (j - 1) _ _
theorem strs_ins (ks : List Tk.Src) (i : Nat) (x : Tk.Src) (h : i ≤ ks.length) : strs (ks.insertIdx i x) = (strs ks).take (i * 1) ++ [Value.string ⟨x.toArray⟩] ++ (strs ks).drop (i * 1) := by
  rw [Nat.mul_one, ins_eq ks i x h]
  unfold strs
  rw [List.map_append, List.map_cons, List.map_take, List.map_drop, List.append_assoc]; rfl
theorem v5cs_take (l : List V5) (i : Nat) : v5cs (l.take i) = (v5cs l).take (i * 5) := by
  induction l generalizing i with
  | nil => simp [v5cs]
  | cons v l ih =>
    cases i with
    | zero => simp [v5cs]
    | succ i =>
      have e : v5cs (v :: l) = v.cells ++ v5cs l := rfl
      have e2 : v5cs ((v :: l).take (i + 1)) = v.cells ++ v5cs (l.take i) := rfl
      have e3 : (i + 1) * 5 = v.cells.length + i * 5 := by rw [v5len]; omega
      rw [e, e2, ih, e3, List.take_length_add_append]
theorem v5cs_drop (l : List V5) (i : Nat) : v5cs (l.drop i) = (v5cs l).drop (i * 5) := by
  induction l generalizing i with
  | nil => simp [v5cs]
  | cons v l ih =>
    cases i with
    | zero => simp [v5cs]
    | succ i =>
      have e : v5cs (v :: l) = v.cells ++ v5cs l := rfl
      have e2 : v5cs ((v :: l).drop (i + 1)) = v5cs (l.drop i) := rfl
      have e3 : (i + 1) * 5 = v.cells.length + i * 5 := by rw [v5len]; omega
      rw [e, e2, ih, e3, List.drop_length_add_append]
theorem v5cs_ins (vs : List V5) (i : Nat) (u : V5) (h : i ≤ vs.length) : v5cs (vs.insertIdx i u) = (v5cs vs).take (i * 5) ++ u.cells ++ (v5cs vs).drop (i * 5) := by
  rw [ins_eq vs i u h, ← v5cs_take, ← v5cs_drop]
  unfold v5cs
  rw [List.flatMap_append, List.flatMap_cons, List.append_assoc]
section
variable {w w' : World} {B : Nat} {kv dv : Value} {ks : List Tk.Src} {os : List Ox} {vs : List V5}
theorem TrR.insK (h : TrR w B kv dv ks os vs) {i : Nat} {x : Tk.Src} {kv' : Value} (hi : i ≤ ks.length)
    (ho : w'.ownsRow B 9 1 kv' (ks.length + 1) ((strs ks).take (i * 1) ++ [.string ⟨x.toArray⟩] ++ (strs ks).drop (i * 1))) (hf : FrS w.heap.size (fun k => kv.ownBlock = some k) w w') (hv : kv'.ownBlock = kv.ownBlock ∨ ∃ k, kv'.ownBlock = some k ∧ w.heap.size ≤ k) :
    TrR w' B kv' dv (ks.insertIdx i x) os vs := by
  have hnew : ∀ k, k < w.heap.size → kv.ownBlock ≠ some k → kv'.ownBlock ≠ some k := fun k hk hn e => by
    rcases hv with hv | ⟨g, hv, hg⟩
    · exact hn (hv ▸ e)
    · rw [hv] at e; cases e; omega
  refine ⟨h.len, by rw [ins_len ks i x hi, strs_ins ks i x hi]; exact ho, hf.own h.od fun k hk => ⟨(own_lt h.od k hk).2, fun e => h.ne k e hk⟩, fun k hk hd => ?_, fun j a b => ?_⟩
  · have := (own_lt h.od k hd).2
    exact hnew k this (fun e => h.ne k e hd) hk
  · have h1 := (h.kid j a b).mono (Q := fun k => PT B kv dv k ∧ k < w.heap.size) fun k hk hp => ⟨hp, hk⟩
    have h2 := h1.keep (w' := w') hf.size fun k hk hl => hf.block k hl fun e => hk.1.2.1 e
    exact h2.mono fun k _ hk => ⟨hk.1.1, hnew k hk.2 hk.1.2.1, hk.1.2.2⟩
theorem TrR.insO (h : TrR w B kv dv ks os vs) {i : Nat} {u : V5} {o : Ox} {dv' : Value} (hi : i ≤ os.length) (hu : ObjV (PT B kv dv) w u o)
    (ho : w'.ownsRow B 25 5 dv' (os.length + 1) ((v5cs vs).take (i * 5) ++ u.cells ++ (v5cs vs).drop (i * 5))) (hf : FrS w.heap.size (fun k => dv.ownBlock = some k) w w') (hv : dv'.ownBlock = dv.ownBlock ∨ ∃ k, dv'.ownBlock = some k ∧ w.heap.size ≤ k) :
    TrR w' B kv dv' ks (os.insertIdx i o) (vs.insertIdx i u) := by
  have hiv : i ≤ vs.length := by rw [h.len]; exact hi
  have hnew : ∀ k, k < w.heap.size → dv.ownBlock ≠ some k → dv'.ownBlock ≠ some k := fun k hk hn e => by
    rcases hv with hv | ⟨g, hv, hg⟩
    · exact hn (hv ▸ e)
    · rw [hv] at e; cases e; omega
  have keepP : ∀ {v : V5} {y : Ox}, ObjV (PT B kv dv) w v y → ObjV (PT B kv dv') w' v y := fun {v y} hx => by
    have h1 := hx.mono (Q := fun k => PT B kv dv k ∧ k < w.heap.size) fun k hk hp => ⟨hp, hk⟩
    have h2 := h1.keep (w' := w') hf.size fun k hk hl => hf.block k hl fun e => hk.1.2.2 e
    exact h2.mono fun k _ hk => ⟨hk.1.1, hk.1.2.1, hnew k hk.2 hk.1.2.2⟩
  refine ⟨by rw [ins_len _ _ _ hi, ins_len _ _ _ hiv, h.len], hf.own h.ok fun k hk => ⟨(own_lt h.ok k hk).2, fun e => h.ne k hk e⟩, by rw [ins_len os i o hi, v5cs_ins vs i u hiv]; exact ho, fun k hk hd => ?_, ?_⟩
  · have := (own_lt h.ok k hk).2
    exact hnew k this (h.ne k hk) hd
  · exact all2_ins h.len (fun j a b => keepP (h.kid j a b)) i hi u o (keepP hu)
end
theorem ObjV.one {P : Nat → Prop} {w : World} {v : V5} {o : Ox} (h : ObjV P w v o) : ∀ x ∈ v.cells, x.oneCell' = true := by
  obtain ⟨kv, dv, vs, rfl, h1, h2, -, -⟩ := h.open_
  obtain ⟨A, c, rfl⟩ := h1.form
  obtain ⟨A2, c2, rfl⟩ := h2.form
  intro x hx
  simp only [V5.cells, List.mem_cons, List.mem_nil_iff, or_false] at hx
  rcases hx with rfl | rfl | rfl | rfl | rfl <;> rfl
theorem TrR.oneO {w : World} {B : Nat} {kv dv : Value} {ks : List Tk.Src} {os : List Ox} {vs : List V5} (h : TrR w B kv dv ks os vs) : ∀ x ∈ v5cs vs, x.oneCell' = true := by
  intro x hx
  obtain ⟨v, hv, hx⟩ := List.mem_flatMap.1 hx
  obtain ⟨j, hj, e⟩ := List.getElem_of_mem hv
  have := h.kid j (by have := h.len; omega) hj
  rw [e] at this
  exact this.one x hx
theorem strs_one (ks : List Tk.Src) : ∀ x ∈ strs ks, x.oneCell' = true := by
  intro x hx
  obtain ⟨s, _, rfl⟩ := List.mem_map.1 hx
  rfl
/-! Keys that stay sorted. -/
theorem sorted_ins : ∀ (ks : List Tk.Src) (x : Tk.Src), Sorted ks → (posK ks x).2 = false → Sorted (ks.insertIdx (posK ks x).1 x)
  | [], x, _, _ => by simp [posK, Sorted]
  | a :: r, x, hs, hf => by
    obtain ⟨h1, h2⟩ := List.pairwise_cons.1 hs
    simp only [posK] at hf ⊢
    by_cases h : ltB a x = true
    · rw [if_pos h] at hf ⊢
      dsimp only at hf ⊢
      rw [Nat.add_comm, List.insertIdx_succ_cons]
      have ih := sorted_ins r x h2 hf
      refine List.Pairwise.cons (fun b hb => ?_) ih
      rw [ins_eq r _ x (pos_le r x)] at hb
      rcases List.mem_append.1 hb with hb | hb
      · exact h1 b (List.mem_of_mem_take hb)
      · rcases List.mem_cons.1 hb with rfl | hb
        · exact h
        · exact h1 b (List.mem_of_mem_drop hb)
    · rw [if_neg h] at hf ⊢
      dsimp only at hf ⊢
      have hax : a ≠ x := by simpa using hf
      have hxa : ltB x a = true := by
        cases hxa : ltB x a with
        | true => rfl
        | false => exact absurd (ltB_or a x (by simpa using h) hxa) hax
      show Sorted (x :: a :: r)
      refine List.Pairwise.cons (fun b hb => ?_) hs
      rcases List.mem_cons.1 hb with rfl | hb
      · exact hxa
      · exact ltB_trans _ _ _ hxa (h1 b hb)
end Go.Proofs.YthbdhijkdldmoaaGreatDoor
namespace Go.Proofs.YthbdhijkdldmoaaGreatDoor
namespace Ob
open Tk
theorem kids_len {g : Ox → Nat → Except Int (List BTok × Nat)} (hg : ∀ o n l m, g o n = .ok (l, m) → l.length + 1 + 3 * n ≤ 3 * m ∧ m ≤ 4096) {dict : Bool} : ∀ (os : List Ox) (ks : List Tk.Src) (n m : Nat) (l : List BTok), kidsF g dict ks os n = .ok (l, m) → l.length + 3 * n ≤ 3 * m ∧ (n ≤ 4096 → m ≤ 4096)
  | [], ks, n, m, l, h => by cases h; exact ⟨by simp, fun h => h⟩
  | o :: os, ks, n, m, l, h => by
    obtain ⟨l1, n1, l2, h1, h2, rfl⟩ := kidsF_cons h
    obtain ⟨a, b⟩ := hg _ _ _ _ h1
    obtain ⟨c, d⟩ := kids_len hg os ks.tail n1 m l2 h2
    refine ⟨?_, fun _ => d b⟩
    have : (if dict = true then [(⟨2, 0, ks.headD []⟩ : BTok)] else []).length ≤ 1 := by split <;> simp
    rw [List.length_append, List.length_append]; omega
theorem add_len : ∀ (f d : Nat) (o : Ox) (n : Nat) (l : List BTok) (m : Nat), addF f d o n = .ok (l, m) → l.length + 1 + 3 * n ≤ 3 * m ∧ m ≤ 4096
  | 0, _, _, _, _, _, h => by cases h
  | f + 1, d, o, n, l, m, h => by
    obtain ⟨hn, _, ⟨_, _, rfl, rfl⟩ | ⟨_, l1, hl, rfl⟩⟩ := addF_cases h
    · exact ⟨by simp; omega, by omega⟩
    · obtain ⟨a, b⟩ := kids_len (fun o n l m h => add_len f (d + 1) o n l m h) o.kids o.keys (n + 1) m l1 hl
      exact ⟨by simp; omega, b (by omega)⟩
end Ob
end Go.Proofs.YthbdhijkdldmoaaGreatDoor
