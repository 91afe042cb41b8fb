/- The walks of raster: sized, Check, Clone of bytes, Of, Plate. -/
import Derived.Test.YtjcijogdcafloaaCat
import Derived.RegionTactic
import Derived.Deep.RegionLaw
import Derived.Deep.RegionWith
import Derived.Deep.RegionHeld3
namespace Go.Proofs.Ytjcijogdcafloaa
open Go.RowKit
def sizedB (a b : Int) : Bool := decide (1 ≤ a) && decide (a ≤ 1024) && decide (1 ≤ b) && decide (b ≤ 1024)
set_option maxHeartbeats 1000000 in
theorem sized_any (a b : Int) (w : World) :
    Calls Try.prog 55 #[.int .i64 a, .int .i64 b] w fun e w' => e = .returned (.bool (sizedB a b)) ∧ w = w' := by
  have HZ : Hid (sizedB a b = (decide (1 ≤ a) && decide (a ≤ 1024) && decide (1 ≤ b) && decide (b ≤ 1024))) := rfl
  generalize sizedB a b = z at *
  by_cases h1 : 1 ≤ a
  · by_cases h2 : a ≤ 1024
    · by_cases h3 : 1 ≤ b
      · have hz : z = decide (b ≤ 1024) := by rw [HZ.out]; simp [h1, h2, h3]
        subst hz
        go_enter Try.func55, Try.ntmps55
        go_wp2
        go_ret
        exact ⟨rfl, rfl⟩
      · have hz : z = false := by rw [HZ.out]; simp [h3]
        subst hz
        go_enter Try.func55, Try.ntmps55
        go_wp2
        go_ret
        exact ⟨by simp; try omega, rfl⟩
    · have hz : z = false := by rw [HZ.out]; simp [h2]
      subst hz
      go_enter Try.func55, Try.ntmps55
      go_wp2
      go_ret
      exact ⟨by simp; try omega, rfl⟩
  · have hz : z = false := by rw [HZ.out]; simp [h1]
    subst hz
    go_enter Try.func55, Try.ntmps55
    go_wp2
    go_ret
    exact ⟨by simp; try omega, rfl⟩
/-- What Check answers. -/
def gridZ (W H : Int) (n : Nat) : Int := if sizedB W H then (if (n : Int) = W * H then 0 else 4) else 3
theorem sizedB_iff {a b : Int} : sizedB a b = true ↔ 1 ≤ a ∧ a ≤ 1024 ∧ 1 ≤ b ∧ b ≤ 1024 := by
  unfold sizedB; simp; omega
set_option maxHeartbeats 1000000 in
theorem gcheck_any (W H : Int) (A : Option Addr) (n c : Nat) (w : World) :
    Calls Try.prog 58 #[.agg #[.int .i64 W, .int .i64 H, .slice A n c]] w fun e w' => e = .returned (.int .i64 (gridZ W H n)) ∧ Below w.heap.size w w' := by
  have HZ : Hid (gridZ W H n = if sizedB W H then (if (n : Int) = W * H then 0 else 4) else 3) := rfl
  generalize gridZ W H n = z at *
  have HS := Lib.hid (sized_any W H)
  cases hs : sizedB W H
  · rw [hs] at HS
    obtain rfl : z = 3 := by rw [HZ.out, hs]; rfl
    clear hs
    go_enter Try.func58, Try.ntmps58
    go_wp2_with (go_at_call 55; refine (HS.out _).mono ?_; rintro e w' ⟨rfl, rfl⟩)
    go_ret
    exact ⟨rfl, (Below.refl _ _).alloc (Nat.le_refl _) _⟩
  · rw [hs] at HS
    obtain ⟨a1, a2, a3, a4⟩ := sizedB_iff.1 hs
    obtain ⟨x, rfl⟩ := Int.eq_ofNat_of_zero_le (show 0 ≤ W by omega)
    obtain ⟨y, rfl⟩ := Int.eq_ofNat_of_zero_le (show 0 ≤ H by omega)
    have hmul : (x : Int) * (y : Int) = ((x * y : Nat) : Int) := by simp
    have hle : x * y ≤ 1024 * 1024 := Nat.mul_le_mul (by omega) (by omega)
    have hz : z = if (n : Int) = ((x * y : Nat) : Int) then 0 else 4 := by rw [HZ.out, hs, hmul]; rfl
    clear hs HZ
    generalize x * y = m at *
    by_cases hn : n = m
    · subst hn
      obtain rfl : z = 0 := by rw [hz, if_pos rfl]
      clear hz
      go_enter Try.func58, Try.ntmps58
      go_wp2_with (go_at_call 55; refine (HS.out _).mono ?_; rintro e w' ⟨rfl, rfl⟩)
      go_ret
      exact ⟨rfl, (Below.refl _ _).alloc (Nat.le_refl _) _⟩
    · have hne : ((n : Int) == (m : Int)) = false := by rw [beq_eq_false_iff_ne]; omega
      obtain rfl : z = 4 := by rw [hz, if_neg (by omega)]
      clear hz hn
      go_enter Try.func58, Try.ntmps58
      go_wp2_with (go_at_call 55; refine (HS.out _).mono ?_; rintro e w' ⟨rfl, rfl⟩)
      go_ret
      exact ⟨rfl, (Below.refl _ _).alloc (Nat.le_refl _) _⟩
def byts (l : List UInt8) : List Value := l.map fun b => Value.int .u8 (b.toNat : Int)
theorem byts_length (l : List UInt8) : (byts l).length = l.length := by simp [byts]
theorem byts_one (l : List UInt8) : ∀ u ∈ byts l, u.oneCell' = true := by
  intro u hu; simp only [byts, List.mem_map] at hu; obtain ⟨z, _, rfl⟩ := hu; rfl
theorem eByte : ElemT Try.prog 50 5 (.int .u8 0) 1 := ElemT.mk_ Try.underlying50 (by kernel_rfl) rfl
set_option maxRecDepth 100000 in
set_option maxHeartbeats 4000000 in
/-- Clone of bytes. -/
theorem clone_bytes (v : Value) (l : List UInt8) (ok : Nat → Prop) (w : World) (h : Sl w ok v (byts l)) (hn : l.length ≤ 2000000) :
    Calls Try.prog 59 #[v] w fun e w' => ∃ v', e = .returned v' ∧ w'.ownsRow w.heap.size 5 1 v' l.length (byts l) ∧ Below w.heap.size w w' := by
  have HL := Lib.hid h
  have q38 : ∀ (w : World) (a : Option Addr) (n c n' c' : Nat), (binOp .eql 50 (.slice a n c) (.slice none n' c')).run Try.prog w = .ok (.bool a.isNone) w := fun w a n c n' c' => Lib.run_eql_slice_nil w _ _ a n c n' c' Try.underlying50
  obtain ⟨A, c, ev⟩ := h.form
  rw [byts_length] at ev
  subst ev
  clear h
  generalize hlen : l.length = n at *
  have HN := Lib.hid hlen
  clear hlen
  cases A with
  | none =>
    have hn0 : n = 0 := by
      rcases Nat.eq_zero_or_pos n with h | h
      · exact h
      · obtain ⟨ad, e, _⟩ := HL.out.addr (by rw [byts_length, HN.out]; exact h); cases e
    subst hn0
    have hl : l = [] := List.eq_nil_of_length_eq_zero HN.out
    subst hl
    go_enter Try.func59, Try.ntmps59
    go_wp2
    go_ret
    exact ⟨_, rfl, World.ownsRow_nil w _ _ _, Below.refl _ w⟩
  | some ad =>
    have hown0 : Hid ((w.alloc (.cells #[] 5)).ownsRow w.heap.size 5 1 (.slice (some ⟨w.heap.size, 0, none⟩) 0 0) 0 []) :=
      ⟨rfl, .inr ⟨w.heap.size, 0, #[], rfl, Nat.le_refl _, heap_alloc_new w _, Nat.le_refl _, by simp, by simp, by simp⟩⟩
    go_enter Try.func59, Try.ntmps59
    go_wp2_with (at_builtin; go_must (refine wpList_append_sl eByte rfl (.tmp 5) (.tmp 6) rfl w.heap.size _ 0 [] rfl hown0.out (some ad) n c (byts l) ok rfl (HL.out.alloc (.cells #[] 5)) (byts_one l) (by omega) (by omega) (by simp) ?_; intro v' w2 hown2 hg2 _))
    go_wp2
    go_ret
    refine ⟨_, rfl, by simpa [List.nil_append] using hown2, ?_⟩
    exact ((Below.refl _ w).alloc (Nat.le_refl _) _).grown hg2 (by simp) (by intro k hk; exact Nat.le_of_eq (Option.some.inj hk))
/-- A raster or a plate whose row is the call's own. -/
def GridPost (W H : Int) (l : List UInt8) (w : World) (e : Ending) (w' : World) : Prop :=
  ∃ v, e = .returned (.agg #[.int .i64 W, .int .i64 H, v]) ∧ w'.ownsRow w.heap.size 5 1 v l.length (byts l) ∧ Below w.heap.size w w'
set_option maxRecDepth 100000 in
set_option maxHeartbeats 4000000 in
theorem of_any (W H : Int) (v : Value) (l : List UInt8) (ok : Nat → Prop) (w : World) (h : Sl w ok v (byts l)) (hn : l.length ≤ 2000000) :
    Calls Try.prog 41 #[.agg #[.int .i64 W, .int .i64 H, v]] w (GridPost W H l w) := by
  have HL := Lib.hid h
  have HC : Hid (∀ w', Below w.heap.size w w' → Calls Try.prog 59 #[v] w' fun e w'' => ∃ A' c', e = .returned (.slice A' l.length c') ∧ w''.ownsRow w'.heap.size 5 1 (.slice A' l.length c') l.length (byts l) ∧ Below w'.heap.size w' w'') := fun w' hb => (clone_bytes v l ok w' (HL.out.later hb) hn).mono fun e w'' h => by
    obtain ⟨v', he, ho, hb⟩ := h
    obtain ⟨A', c', rfl⟩ := own_form ho
    exact ⟨A', c', he, ho, hb⟩
  have HP : Hid (∀ e w', GridPost W H l w e w' = ∃ v, e = .returned (.agg #[.int .i64 W, .int .i64 H, v]) ∧ w'.ownsRow w.heap.size 5 1 v l.length (byts l) ∧ Below w.heap.size w w') := fun _ _ => rfl
  generalize GridPost W H l w = Post at *
  obtain ⟨A, c, ev⟩ := h.form
  rw [byts_length] at ev
  subst ev
  clear h
  generalize l.length = n at *
  have hb0 := Lib.hid (((Below.refl w.heap.size w).alloc (Nat.le_refl _) (Obj.cells #[.int .i64 W, .int .i64 H, .slice A n c] 52)).alloc (by simp) (Obj.cells #[.int .i64 0, .int .i64 0, .slice none 0 0] 93))
  have hbl := Lib.hid (Blk.new (w.alloc (Obj.cells #[.int .i64 W, .int .i64 H, .slice A n c] 52)) 93 #[.int .i64 0, .int .i64 0, .slice none 0 0])
  go_enter Try.func41, Try.ntmps41
  have bl0 := (Blk.new w 52 #[.int .i64 W, .int .i64 H, .slice A n c]).alloc (Obj.cells #[.int .i64 0, .int .i64 0, .slice none 0 0] 93)
  have bl1 := hbl.out.drew
  simp only [World.size_alloc] at bl1
  have HB1 := Lib.hid bl1
  have hS0 : (fun w' : World => w'.cell? ⟨w.heap.size, 0, none⟩ = some (.int .i64 W) ∧ w'.cell? ⟨w.heap.size, 1, none⟩ = some (.int .i64 H) ∧ w'.cell? ⟨w.heap.size, 2, none⟩ = some (.slice A n c) ∧ Below w.heap.size w w' ∧ w.heap.size < w'.heap.size) (((w.alloc (Obj.cells #[.int .i64 W, .int .i64 H, .slice A n c] 52)).alloc (Obj.cells #[.int .i64 0, .int .i64 0, .slice none 0 0] 93)).drew) := ⟨bl0.cell 0, bl0.cell 1, bl0.cell 2, hb0.out.drew, bl0.lt⟩
  have HK : Hid (∀ w' w'' : World, (w'.cell? ⟨w.heap.size, 0, none⟩ = some (.int .i64 W) ∧ w'.cell? ⟨w.heap.size, 1, none⟩ = some (.int .i64 H) ∧ w'.cell? ⟨w.heap.size, 2, none⟩ = some (.slice A n c) ∧ Below w.heap.size w w' ∧ w.heap.size < w'.heap.size) → Below w'.heap.size w' w'' → (w''.cell? ⟨w.heap.size, 0, none⟩ = some (.int .i64 W) ∧ w''.cell? ⟨w.heap.size, 1, none⟩ = some (.int .i64 H) ∧ w''.cell? ⟨w.heap.size, 2, none⟩ = some (.slice A n c) ∧ Below w.heap.size w w'' ∧ w.heap.size < w''.heap.size)) := by
    rintro w' w'' ⟨a0, a1, a2, a3, a4⟩ hb
    exact ⟨(hb.cell (p := ⟨w.heap.size, 0, none⟩) a4).trans a0, (hb.cell (p := ⟨w.heap.size, 1, none⟩) a4).trans a1, (hb.cell (p := ⟨w.heap.size, 2, none⟩) a4).trans a2, a3.trans (hb.mono a3.size), Nat.lt_of_lt_of_le a4 hb.size⟩
  have HK2 : Hid (∀ (w' : World) (a0 a1 a2 : Value), (w'.cell? ⟨w.heap.size, 0, none⟩ = some (.int .i64 W) ∧ w'.cell? ⟨w.heap.size, 1, none⟩ = some (.int .i64 H) ∧ w'.cell? ⟨w.heap.size, 2, none⟩ = some (.slice A n c) ∧ Below w.heap.size w w' ∧ w.heap.size < w'.heap.size) → (fun w'' : World => w''.cell? ⟨w.heap.size, 0, none⟩ = some (.int .i64 W) ∧ w''.cell? ⟨w.heap.size, 1, none⟩ = some (.int .i64 H) ∧ w''.cell? ⟨w.heap.size, 2, none⟩ = some (.slice A n c) ∧ Below w.heap.size w w'' ∧ w.heap.size < w''.heap.size) (((w'.setCell ⟨w.heap.size + 1, 0, none⟩ a0).setCell ⟨w.heap.size + 1, 1, none⟩ a1).setCell ⟨w.heap.size + 1, 2, none⟩ a2)) := by
    rintro w' x0 x1 x2 ⟨a0, a1, a2, a3, a4⟩
    have oth : ∀ (V : World) (o p : Nat) (u : Value), (V.setCell ⟨w.heap.size + 1, p, none⟩ u).cell? ⟨w.heap.size, o, none⟩ = V.cell? ⟨w.heap.size, o, none⟩ := fun V o p u => World.cell?_setCell_other V _ _ u (by simp)
    refine ⟨?_, ?_, ?_, ((a3.setCell (by simp) _).setCell (by simp) _).setCell (by simp) _, by simpa [World.setCell] using a4⟩
    · rw [oth, oth, oth]; exact a0
    · rw [oth, oth, oth]; exact a1
    · rw [oth, oth, oth]; exact a2
  dsimp only at hS0 HK2
  clear bl0 bl1
  go_wp2
  go_region_held3 (fun w' => w'.cell? ⟨w.heap.size, 0, none⟩ = some (.int .i64 W) ∧ w'.cell? ⟨w.heap.size, 1, none⟩ = some (.int .i64 H) ∧ w'.cell? ⟨w.heap.size, 2, none⟩ = some (.slice A n c) ∧ Below w.heap.size w w' ∧ w.heap.size < w'.heap.size)
    (first | exact hS0 | (exact HK2.out _ _ _ _ (by first | assumption | exact ⟨by assumption, by assumption, by assumption, by assumption, by assumption⟩)) | (exact HK.out _ _ (by first | assumption | exact hS0 | exact ⟨by assumption, by assumption, by assumption, by assumption, by assumption⟩) (by assumption)))
    (first | (go_at_call 59; refine (HC.out _ (by first | exact hS0.2.2.2.1 | assumption)).mono ?_; rintro e w1 ⟨A1, c1, rfl, ho1, hb1⟩; have bz := HB1.out.below hb1 HB1.out.lt; have z0 := bz.cell 0; have z1 := bz.cell 1; have z2 := bz.cell 2; simp only [List.getElem?_toArray, List.getElem?_cons_zero, List.getElem?_cons_succ] at z0 z1 z2; have y0 := bz.frozen 0; have y1 := bz.frozen 1; have y2 := bz.frozen 2; have lz := bz.lt; have HBz := Lib.hid bz; clear bz))
  have ho2 := ho1
  simp only [World.drew, World.size_alloc] at ho2
  have HO := Lib.hid ho1
  have HB := Lib.hid hb1
  have hsz : w.heap.size + 1 < (((w.alloc (Obj.cells #[.int .i64 W, .int .i64 H, .slice A n c] 52)).alloc (Obj.cells #[.int .i64 0, .int .i64 0, .slice none 0 0] 93)).drew).heap.size := by show _ < ((w.alloc _).alloc _).heap.size; simp
  have HSz := Lib.hid hsz
  clear ho1 ho2 hb1 hS0 hsz
  go_wp2
  refine bodyPost_ret (v := .agg #[.int .i64 W, .int .i64 H, .slice A1 n c1]) (by simp [results, Try.results41, go_sem, z0, z1, z2, World.cell?_setCell_other, World.cell?_setCell_same]) rfl ?_
  rw [HP.out]
  refine ⟨_, rfl, ?_, ?_⟩
  · exact own_base (own_setCell (own_setCell (own_setCell HO.out (p := ⟨w.heap.size + 1, 0, none⟩) (.inl HSz.out) _) (p := ⟨w.heap.size + 1, 1, none⟩) (.inl HSz.out) _) (p := ⟨w.heap.size + 1, 2, none⟩) (.inl HSz.out) _) (by have := HSz.out; omega)
  · exact (((hb0.out.drew.trans (HB.out.mono hb0.out.drew.size)).setCell (p := ⟨w.heap.size + 1, 0, none⟩) (by simp) _).setCell (p := ⟨w.heap.size + 1, 1, none⟩) (by simp) _).setCell (p := ⟨w.heap.size + 1, 2, none⟩) (by simp) _
set_option maxRecDepth 100000 in
set_option maxHeartbeats 4000000 in
theorem plate_any (W H : Int) (v : Value) (l : List UInt8) (ok : Nat → Prop) (w : World) (h : Sl w ok v (byts l)) (hn : l.length ≤ 2000000) :
    Calls Try.prog 43 #[.agg #[.int .i64 W, .int .i64 H, v]] w (GridPost W H l w) := by
  have HL := Lib.hid h
  have HC : Hid (∀ w', Below w.heap.size w w' → Calls Try.prog 59 #[v] w' fun e w'' => ∃ A' c', e = .returned (.slice A' l.length c') ∧ w''.ownsRow w'.heap.size 5 1 (.slice A' l.length c') l.length (byts l) ∧ Below w'.heap.size w' w'') := fun w' hb => (clone_bytes v l ok w' (HL.out.later hb) hn).mono fun e w'' h => by
    obtain ⟨v', he, ho, hb⟩ := h
    obtain ⟨A', c', rfl⟩ := own_form ho
    exact ⟨A', c', he, ho, hb⟩
  have HP : Hid (∀ e w', GridPost W H l w e w' = ∃ v, e = .returned (.agg #[.int .i64 W, .int .i64 H, v]) ∧ w'.ownsRow w.heap.size 5 1 v l.length (byts l) ∧ Below w.heap.size w w') := fun _ _ => rfl
  generalize GridPost W H l w = Post at *
  obtain ⟨A, c, ev⟩ := h.form
  rw [byts_length] at ev
  subst ev
  clear h
  generalize l.length = n at *
  have hb0 := Lib.hid (((Below.refl w.heap.size w).alloc (Nat.le_refl _) (Obj.cells #[.int .i64 W, .int .i64 H, .slice A n c] 93)).alloc (by simp) (Obj.cells #[.int .i64 0, .int .i64 0, .slice none 0 0] 52))
  have hbl := Lib.hid (Blk.new (w.alloc (Obj.cells #[.int .i64 W, .int .i64 H, .slice A n c] 93)) 52 #[.int .i64 0, .int .i64 0, .slice none 0 0])
  go_enter Try.func43, Try.ntmps43
  have bl0 := (Blk.new w 93 #[.int .i64 W, .int .i64 H, .slice A n c]).alloc (Obj.cells #[.int .i64 0, .int .i64 0, .slice none 0 0] 52)
  have bl1 := hbl.out.drew
  simp only [World.size_alloc] at bl1
  have HB1 := Lib.hid bl1
  have hS0 : (fun w' : World => w'.cell? ⟨w.heap.size, 0, none⟩ = some (.int .i64 W) ∧ w'.cell? ⟨w.heap.size, 1, none⟩ = some (.int .i64 H) ∧ w'.cell? ⟨w.heap.size, 2, none⟩ = some (.slice A n c) ∧ Below w.heap.size w w' ∧ w.heap.size < w'.heap.size) (((w.alloc (Obj.cells #[.int .i64 W, .int .i64 H, .slice A n c] 93)).alloc (Obj.cells #[.int .i64 0, .int .i64 0, .slice none 0 0] 52)).drew) := ⟨bl0.cell 0, bl0.cell 1, bl0.cell 2, hb0.out.drew, bl0.lt⟩
  have HK : Hid (∀ w' w'' : World, (w'.cell? ⟨w.heap.size, 0, none⟩ = some (.int .i64 W) ∧ w'.cell? ⟨w.heap.size, 1, none⟩ = some (.int .i64 H) ∧ w'.cell? ⟨w.heap.size, 2, none⟩ = some (.slice A n c) ∧ Below w.heap.size w w' ∧ w.heap.size < w'.heap.size) → Below w'.heap.size w' w'' → (w''.cell? ⟨w.heap.size, 0, none⟩ = some (.int .i64 W) ∧ w''.cell? ⟨w.heap.size, 1, none⟩ = some (.int .i64 H) ∧ w''.cell? ⟨w.heap.size, 2, none⟩ = some (.slice A n c) ∧ Below w.heap.size w w'' ∧ w.heap.size < w''.heap.size)) := by
    rintro w' w'' ⟨a0, a1, a2, a3, a4⟩ hb
    exact ⟨(hb.cell (p := ⟨w.heap.size, 0, none⟩) a4).trans a0, (hb.cell (p := ⟨w.heap.size, 1, none⟩) a4).trans a1, (hb.cell (p := ⟨w.heap.size, 2, none⟩) a4).trans a2, a3.trans (hb.mono a3.size), Nat.lt_of_lt_of_le a4 hb.size⟩
  have HK2 : Hid (∀ (w' : World) (a0 a1 a2 : Value), (w'.cell? ⟨w.heap.size, 0, none⟩ = some (.int .i64 W) ∧ w'.cell? ⟨w.heap.size, 1, none⟩ = some (.int .i64 H) ∧ w'.cell? ⟨w.heap.size, 2, none⟩ = some (.slice A n c) ∧ Below w.heap.size w w' ∧ w.heap.size < w'.heap.size) → (fun w'' : World => w''.cell? ⟨w.heap.size, 0, none⟩ = some (.int .i64 W) ∧ w''.cell? ⟨w.heap.size, 1, none⟩ = some (.int .i64 H) ∧ w''.cell? ⟨w.heap.size, 2, none⟩ = some (.slice A n c) ∧ Below w.heap.size w w'' ∧ w.heap.size < w''.heap.size) (((w'.setCell ⟨w.heap.size + 1, 0, none⟩ a0).setCell ⟨w.heap.size + 1, 1, none⟩ a1).setCell ⟨w.heap.size + 1, 2, none⟩ a2)) := by
    rintro w' x0 x1 x2 ⟨a0, a1, a2, a3, a4⟩
    have oth : ∀ (V : World) (o p : Nat) (u : Value), (V.setCell ⟨w.heap.size + 1, p, none⟩ u).cell? ⟨w.heap.size, o, none⟩ = V.cell? ⟨w.heap.size, o, none⟩ := fun V o p u => World.cell?_setCell_other V _ _ u (by simp)
    refine ⟨?_, ?_, ?_, ((a3.setCell (by simp) _).setCell (by simp) _).setCell (by simp) _, by simpa [World.setCell] using a4⟩
    · rw [oth, oth, oth]; exact a0
    · rw [oth, oth, oth]; exact a1
    · rw [oth, oth, oth]; exact a2
  dsimp only at hS0 HK2
  clear bl0 bl1
  go_wp2
  go_region_held3 (fun w' => w'.cell? ⟨w.heap.size, 0, none⟩ = some (.int .i64 W) ∧ w'.cell? ⟨w.heap.size, 1, none⟩ = some (.int .i64 H) ∧ w'.cell? ⟨w.heap.size, 2, none⟩ = some (.slice A n c) ∧ Below w.heap.size w w' ∧ w.heap.size < w'.heap.size)
    (first | exact hS0 | (exact HK2.out _ _ _ _ (by first | assumption | exact ⟨by assumption, by assumption, by assumption, by assumption, by assumption⟩)) | (exact HK.out _ _ (by first | assumption | exact hS0 | exact ⟨by assumption, by assumption, by assumption, by assumption, by assumption⟩) (by assumption)))
    (first | (go_at_call 59; refine (HC.out _ (by first | exact hS0.2.2.2.1 | assumption)).mono ?_; rintro e w1 ⟨A1, c1, rfl, ho1, hb1⟩; have bz := HB1.out.below hb1 HB1.out.lt; have z0 := bz.cell 0; have z1 := bz.cell 1; have z2 := bz.cell 2; simp only [List.getElem?_toArray, List.getElem?_cons_zero, List.getElem?_cons_succ] at z0 z1 z2; have y0 := bz.frozen 0; have y1 := bz.frozen 1; have y2 := bz.frozen 2; have lz := bz.lt; have HBz := Lib.hid bz; clear bz))
  have ho2 := ho1
  simp only [World.drew, World.size_alloc] at ho2
  have HO := Lib.hid ho1
  have HB := Lib.hid hb1
  have hsz : w.heap.size + 1 < (((w.alloc (Obj.cells #[.int .i64 W, .int .i64 H, .slice A n c] 93)).alloc (Obj.cells #[.int .i64 0, .int .i64 0, .slice none 0 0] 52)).drew).heap.size := by show _ < ((w.alloc _).alloc _).heap.size; simp
  have HSz := Lib.hid hsz
  clear ho1 ho2 hb1 hS0 hsz
  go_wp2
  refine bodyPost_ret (v := .agg #[.int .i64 W, .int .i64 H, .slice A1 n c1]) (by simp [results, Try.results43, go_sem, z0, z1, z2, World.cell?_setCell_other, World.cell?_setCell_same]) rfl ?_
  rw [HP.out]
  refine ⟨_, rfl, ?_, ?_⟩
  · exact own_base (own_setCell (own_setCell (own_setCell HO.out (p := ⟨w.heap.size + 1, 0, none⟩) (.inl HSz.out) _) (p := ⟨w.heap.size + 1, 1, none⟩) (.inl HSz.out) _) (p := ⟨w.heap.size + 1, 2, none⟩) (.inl HSz.out) _) (by have := HSz.out; omega)
  · exact (((hb0.out.drew.trans (HB.out.mono hb0.out.drew.size)).setCell (p := ⟨w.heap.size + 1, 0, none⟩) (by simp) _).setCell (p := ⟨w.heap.size + 1, 1, none⟩) (by simp) _).setCell (p := ⟨w.heap.size + 1, 2, none⟩) (by simp) _
end Go.Proofs.Ytjcijogdcafloaa
