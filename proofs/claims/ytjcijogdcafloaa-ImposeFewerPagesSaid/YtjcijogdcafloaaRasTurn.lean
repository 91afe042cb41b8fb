/- The walk of raster.Turn, its three closures first. -/
import Derived.Test.YtjcijogdcafloaaRasBld
import Derived.Test.YtjcijogdcafloaaPaste
namespace Go.Proofs.Ytjcijogdcafloaa
open Go.RowKit
/-- A raster's pixels, read from a box. -/
structure GBox (w : World) (G b off n c : Nat) (g : List UInt8) : Prop where
  cg : w.cell? ⟨G, 2, none⟩ = some (.slice (some ⟨b, off, none⟩) n c)
  cells : ∀ i, i < n → w.cell? ⟨b, off + i, none⟩ = some (.int .u8 ((pixN g i).toNat : Int))
  lt : G < w.heap.size
  blt : b < w.heap.size
theorem GBox.later {w w' : World} {G b off n c : Nat} {g : List UInt8} (h : GBox w G b off n c g) (hb : Below w.heap.size w w') : GBox w' G b off n c g :=
  ⟨(hb.cell (p := ⟨G, 2, none⟩) h.lt).trans h.cg, fun i hi => (hb.cell (p := ⟨b, off + i, none⟩) h.blt).trans (h.cells i hi), Nat.lt_of_lt_of_le h.lt hb.size, Nat.lt_of_lt_of_le h.blt hb.size⟩
theorem turn1_any {W H G b off n c Bh Bw : Nat} {g : List UInt8} (x y : Nat) (w : World) (hx : x < H) (hy : y < W) (hW : W ≤ 1024) (hH : H ≤ 1024) (hn : n = W * H) (h : GBox w G b off n c g) (ch : w.cell? ⟨Bh, 0, none⟩ = some (.int .i64 (H : Int))) (cw : w.cell? ⟨Bw, 0, none⟩ = some (.int .i64 (W : Int))) :
    Calls Try.prog 60 #[.int .i64 (x : Int), .int .i64 (y : Int), .pointer (some ⟨G, 0, none⟩), .pointer (some ⟨Bh, 0, none⟩), .pointer (some ⟨Bw, 0, none⟩)] w fun e w' => e = .returned (.int .u8 ((pixN g ((H - 1 - x) * W + y)).toNat : Int)) ∧ w = w' := by
  have hi : (H - 1 - x) * W + y < n := by
    have := Nat.mul_le_mul_right W (show H - 1 - x + 1 ≤ H by omega)
    rw [Nat.succ_mul, Nat.mul_comm H, ← hn] at this; omega
  have hn9 : n ≤ 1024 * 1024 := by rw [hn]; exact Nat.mul_le_mul hW hH
  have cg := h.cg
  have cc := h.cells _ hi
  have e1 : (H : Int) - 1 - (x : Int) = ((H - 1 - x : Nat) : Int) := by omega
  generalize H - 1 - x = r at *
  have e2 : (r : Int) * (W : Int) = ((r * W : Nat) : Int) := by simp
  generalize r * W = q at *
  have e3 : (q : Int) + (y : Int) = ((q + y : Nat) : Int) := by omega
  generalize q + y = i at *
  generalize pixN g i = px at *
  clear h hn
  go_enter Try.func60, Try.ntmps60
  go_wp2
  go_ret
  exact ⟨rfl, rfl⟩
theorem turn2_any {W H G b off n c Bh Bw : Nat} {g : List UInt8} (x y : Nat) (w : World) (hx : x < W) (hy : y < H) (hW : W ≤ 1024) (hH : H ≤ 1024) (hn : n = W * H) (h : GBox w G b off n c g) (ch : w.cell? ⟨Bh, 0, none⟩ = some (.int .i64 (H : Int))) (cw : w.cell? ⟨Bw, 0, none⟩ = some (.int .i64 (W : Int))) :
    Calls Try.prog 61 #[.int .i64 (x : Int), .int .i64 (y : Int), .pointer (some ⟨G, 0, none⟩), .pointer (some ⟨Bh, 0, none⟩), .pointer (some ⟨Bw, 0, none⟩)] w fun e w' => e = .returned (.int .u8 ((pixN g ((H - 1 - y) * W + W - 1 - x)).toNat : Int)) ∧ w = w' := by
  have hi : (H - 1 - y) * W + W - 1 - x < n := by
    have := Nat.mul_le_mul_right W (show H - 1 - y + 1 ≤ H by omega)
    rw [Nat.succ_mul, Nat.mul_comm H, ← hn] at this; omega
  have hn9 : n ≤ 1024 * 1024 := by rw [hn]; exact Nat.mul_le_mul hW hH
  have cg := h.cg
  have cc := h.cells _ hi
  have e1 : (H : Int) - 1 - (y : Int) = ((H - 1 - y : Nat) : Int) := by omega
  generalize H - 1 - y = r at *
  have e2 : (r : Int) * (W : Int) = ((r * W : Nat) : Int) := by simp
  generalize r * W = q at *
  have e3 : (q : Int) + (W : Int) - 1 - (x : Int) = ((q + W - 1 - x : Nat) : Int) := by omega
  generalize q + W - 1 - x = i at *
  generalize pixN g i = px at *
  clear h hn
  go_enter Try.func61, Try.ntmps61
  go_wp2
  go_ret
  exact ⟨rfl, rfl⟩
theorem turn3_any {W H G b off n c Bw : Nat} {g : List UInt8} (x y : Nat) (w : World) (hx : x < H) (hy : y < W) (hW : W ≤ 1024) (hH : H ≤ 1024) (hn : n = W * H) (h : GBox w G b off n c g) (cw : w.cell? ⟨Bw, 0, none⟩ = some (.int .i64 (W : Int))) :
    Calls Try.prog 62 #[.int .i64 (x : Int), .int .i64 (y : Int), .pointer (some ⟨G, 0, none⟩), .pointer (some ⟨Bw, 0, none⟩)] w fun e w' => e = .returned (.int .u8 ((pixN g (x * W + W - 1 - y)).toNat : Int)) ∧ w = w' := by
  have hi : x * W + W - 1 - y < n := by
    have := Nat.mul_le_mul_right W (show x + 1 ≤ H by omega)
    rw [Nat.succ_mul, Nat.mul_comm H, ← hn] at this; omega
  have hn9 : n ≤ 1024 * 1024 := by rw [hn]; exact Nat.mul_le_mul hW hH
  have cg := h.cg
  have cc := h.cells _ hi
  have e2 : (x : Int) * (W : Int) = ((x * W : Nat) : Int) := by simp
  generalize x * W = q at *
  have e3 : (q : Int) + (W : Int) - 1 - (y : Int) = ((q + W - 1 - y : Nat) : Int) := by omega
  generalize q + W - 1 - y = i at *
  generalize pixN g i = px at *
  clear h hn
  go_enter Try.func62, Try.ntmps62
  go_wp2
  go_ret
  exact ⟨rfl, rfl⟩
theorem enter60 (args : Array Value) (w : World) : (callFunc 60 args).run Try.prog w = .ok (.enter 60 args) w := by go_simp
theorem enter61 (args : Array Value) (w : World) : (callFunc 61 args).run Try.prog w = .ok (.enter 61 args) w := by go_simp
theorem enter62 (args : Array Value) (w : World) : (callFunc 62 args).run Try.prog w = .ok (.enter 62 args) w := by go_simp
theorem app3 (a b c d e : Value) : (#[a, b] ++ #[c, d, e] : Array Value) = #[a, b, c, d, e] := by simp
theorem app2 (a b c d : Value) : (#[a, b] ++ #[c, d] : Array Value) = #[a, b, c, d] := by simp
def TurnOk (W H : Nat) (g : List UInt8) (k : Nat) (w : World) (e : Ending) (w' : World) : Prop :=
  ∃ v', e = .returned (.tuple #[.agg #[.int .i64 ((if k % 2 = 1 then H else W : Nat) : Int), .int .i64 ((if k % 2 = 1 then W else H : Nat) : Int), v'], .int .i64 0]) ∧ w'.ownsRow w.heap.size 5 1 v' (W * H) (byts (trnL W H g (k % 4))) ∧ Below w.heap.size w w'
/-- What Turn has in memory behind its two sizes. -/
structure TuM (W H n c : Nat) (A : Option Addr) (Bw Bh : Nat) (w wr : World) : Prop where
  b1 : Blk wr w.heap.size 93 #[.int .i64 (W : Int), .int .i64 (H : Int), .slice A n c]
  b2 : Blk wr (w.heap.size + 1) 93 #[.int .i64 0, .int .i64 0, .slice none 0 0]
  bw : Blk wr Bw 3 #[.int .i64 (W : Int)]
  bh : Blk wr Bh 3 #[.int .i64 (H : Int)]
  be : Below w.heap.size w wr
theorem TuM.later {W H n c : Nat} {A : Option Addr} {Bw Bh : Nat} {w wr wa : World} (h : TuM W H n c A Bw Bh w wr) (hb : Below wr.heap.size wr wa) : TuM W H n c A Bw Bh w wa :=
  ⟨h.b1.below hb h.b1.lt, h.b2.below hb h.b2.lt, h.bw.below hb h.bw.lt, h.bh.below hb h.bh.lt, h.be.trans (hb.mono h.be.size)⟩
set_option maxRecDepth 100000 in
set_option maxHeartbeats 8000000 in
theorem turn_ok (W H : Nat) (v : Value) (g : List UInt8) (k : Nat) (hk : k ≤ 4) (ok : Nat → Prop) (w : World) (w1 : 1 ≤ W) (w2 : W ≤ 1024) (h1 : 1 ≤ H) (h2 : H ≤ 1024) (hg : g.length = W * H) (hgS : Sl w ok v (byts g)) :
    Calls Try.prog 42 #[.agg #[.int .i64 (W : Int), .int .i64 (H : Int), v], .int .i64 (k : Int)] w (TurnOk W H g k w) := by
  have HL := Lib.hid hgS
  obtain ⟨A, c, ev⟩ := hgS.form
  rw [byts_length] at ev
  subst ev
  have hpos : 1 ≤ W * H := Nat.mul_le_mul w1 h1
  have hle : W * H ≤ 1024 * 1024 := Nat.mul_le_mul w2 h2
  obtain ⟨b, off, rfl, hblt, hbc⟩ := hgS.plainA (by rw [byts_length, hg]; omega)
  have HBox : Hid (∀ wr, Below w.heap.size w wr → ∀ i, i < g.length → wr.cell? ⟨b, off + i, none⟩ = some (.int .u8 ((pixN g i).toNat : Int))) := fun wr hb i hi => by
    refine (hb.cell (p := ⟨b, off + i, none⟩) hblt).trans (hbc i _ ?_)
    unfold byts pixN
    rw [List.getElem?_map, List.getElem?_eq_getElem hi, List.getD_eq_getElem?_getD, List.getElem?_eq_getElem hi]; rfl
  clear hgS hbc
  have HC : Hid (∀ w', Below w.heap.size w w' → Calls Try.prog 59 #[.slice (some ⟨b, off, none⟩) g.length c] w' fun e w'' => ∃ A' c', e = .returned (.slice A' g.length c') ∧ w''.ownsRow w'.heap.size 5 1 (.slice A' g.length c') g.length (byts g) ∧ Below w'.heap.size w' w'') := fun w' hb => (clone_bytes _ g ok w' (HL.out.later hb) (by omega)).mono fun e w'' h => by
    obtain ⟨v', he, ho, hb⟩ := h
    obtain ⟨A', c', rfl⟩ := own_form ho
    exact ⟨A', c', he, ho, hb⟩
  have HG := Lib.hid (And.intro w1 (And.intro w2 (And.intro h1 (And.intro h2 hg))))
  have HP : Hid (∀ e w', TurnOk W H g k w e w' = ∃ v', e = .returned (.tuple #[.agg #[.int .i64 ((if k % 2 = 1 then H else W : Nat) : Int), .int .i64 ((if k % 2 = 1 then W else H : Nat) : Int), v'], .int .i64 0]) ∧ w'.ownsRow w.heap.size 5 1 v' (W * H) (byts (trnL W H g (k % 4))) ∧ Below w.heap.size w w') := fun _ _ => rfl
  generalize TurnOk W H g k w = Post at *
  generalize hn : g.length = n at *
  have HN := Lib.hid hn
  have hn9 : n ≤ 1024 * 1024 := by omega
  clear hn hg
  have b1 := (Blk.new w 93 #[.int .i64 (W : Int), .int .i64 (H : Int), .slice (some ⟨b, off, none⟩) n c]).alloc (Obj.cells #[.int .i64 0, .int .i64 0, .slice none 0 0] 93)
  have b2 := Blk.new (w.alloc (Obj.cells #[.int .i64 (W : Int), .int .i64 (H : Int), .slice (some ⟨b, off, none⟩) n c] 93)) 93 #[.int .i64 0, .int .i64 0, .slice none 0 0]
  have b0 : Below w.heap.size w ((w.alloc (Obj.cells #[.int .i64 (W : Int), .int .i64 (H : Int), .slice (some ⟨b, off, none⟩) n c] 93)).alloc (Obj.cells #[.int .i64 0, .int .i64 0, .slice none 0 0] 93)) := ((Below.refl _ w).alloc (Nat.le_refl _) _).alloc (by simp) _
  simp only [World.size_alloc] at b2
  have B1 := Lib.hid b1
  have B2 := Lib.hid b2
  have B0 := Lib.hid b0
  clear b1 b2 b0
  go_enter Try.func42, Try.ntmps42
  go_wp2_with fail
  refine (gcheck_ok _ _ _ _ _ _ (by assumption)).mono ?_; rintro e wa ⟨rfl, hba⟩
  have C1 := Lib.hid (B1.out.below hba B1.out.lt)
  have C2 := Lib.hid (B2.out.below hba B2.out.lt)
  have C0 := Lib.hid (B0.out.trans (hba.mono B0.out.size))
  have u0 := C1.out.cell 0
  have u1 := C1.out.cell 1
  have u2 := C1.out.cell 2
  simp only [List.getElem?_toArray, List.getElem?_cons_zero, List.getElem?_cons_succ] at u0 u1 u2
  have lz := C1.out.lt
  clear hba B1 B2 B0
  go_wp2
  go_cut [7, 8] (fun v7 v8 wx => ∃ Bw Bh : Nat, v7 = .pointer (some ⟨Bw, 0, none⟩) ∧ v8 = .pointer (some ⟨Bh, 0, none⟩) ∧ TuM W H n c (some ⟨b, off, none⟩) Bw Bh w wx)
  case first =>
    have k1 : Hid (TuM W H n c (some ⟨b, off, none⟩) wa.heap.size (wa.heap.size + 1) w ((wa.alloc (.cells #[.int .i64 (W : Int)] 3)).alloc (.cells #[.int .i64 (H : Int)] 3)).drew) := by
      have x := Blk.new (wa.alloc (.cells #[.int .i64 (W : Int)] 3)) 3 #[.int .i64 (H : Int)]
      rw [World.size_alloc] at x
      have hs := C0.out.size
      exact ⟨((C1.out.alloc _).alloc _).drew, ((C2.out.alloc _).alloc _).drew, ((Blk.new wa _ _).alloc _).drew, x.drew, ((C0.out.alloc hs _).alloc (by simp; omega) _).drew⟩
    have k2 : Hid (TuM W H n c (some ⟨b, off, none⟩) (wa.heap.size + 1) wa.heap.size w ((wa.alloc (.cells #[.int .i64 (H : Int)] 3)).alloc (.cells #[.int .i64 (W : Int)] 3)).drew) := by
      have x := Blk.new (wa.alloc (.cells #[.int .i64 (H : Int)] 3)) 3 #[.int .i64 (W : Int)]
      rw [World.size_alloc] at x
      have hs := C0.out.size
      exact ⟨((C1.out.alloc _).alloc _).drew, ((C2.out.alloc _).alloc _).drew, x.drew, ((Blk.new wa _ _).alloc _).drew, ((C0.out.alloc hs _).alloc (by simp; omega) _).drew⟩
    go_region
    all_goals
      go_wp2
      go_meet
      first
        | exact ⟨_, _, rfl, rfl, k1.out⟩
        | exact ⟨_, _, rfl, rfl, k2.out⟩
  case rest =>
  obtain ⟨Bw, Bh, rfl, rfl, hm⟩ := hcut
  clear u0 u1 u2 lz C1 C2 C0
  have c7 := hm.bw.cell 0
  have c8 := hm.bh.cell 0
  have cg := hm.b1.cell 2
  have z0 := hm.b2.cell 0
  have z1 := hm.b2.cell 1
  have z2 := hm.b2.cell 2
  simp only [List.getElem?_toArray, List.getElem?_cons_zero, List.getElem?_cons_succ] at c7 c8 cg z0 z1 z2
  have f0 := hm.b2.frozen 0
  have f1 := hm.b2.frozen 1
  have f2 := hm.b2.frozen 2
  have lb := hm.b2.lt
  have HM := Lib.hid hm
  clear hm
  have hkk : k = 0 ∨ k = 1 ∨ k = 2 ∨ k = 3 ∨ k = 4 := by omega
  have HK := Lib.hid hk
  clear hk
  have HGB : Hid (GBox wc w.heap.size b off n c g) := ⟨cg, fun i hi => HBox.out wc HM.out.be i hi, by omega, by have := HM.out.be.size; omega⟩
  have q1 : bits .and .i64 1 3 = 1 := by decide
  have q2 : bits .and .i64 2 3 = 2 := by decide
  have q3 : bits .and .i64 3 3 = 3 := by decide
  have q4 : bits .and .i64 4 3 = 0 := by decide
  have q0 : bits .and .i64 0 3 = 0 := by decide
  rcases hkk with rfl | rfl | rfl | rfl | rfl
  · have hne1 : Bw ≠ w.heap.size + 1 := fun e => by have h := HM.out.bw; rw [e] at h; unfold Blk at h; rw [show wc.heap[w.heap.size + 1]? = _ from HM.out.b2] at h; simp at h
    have hne2 : Bh ≠ w.heap.size + 1 := fun e => by have h := HM.out.bh; rw [e] at h; unfold Blk at h; rw [show wc.heap[w.heap.size + 1]? = _ from HM.out.b2] at h; simp at h
    have HK1 : Hid (∀ w' w'' : World, (w'.cell? ⟨Bw, 0, none⟩ = some (.int .i64 W) ∧ w'.cell? ⟨Bh, 0, none⟩ = some (.int .i64 H) ∧ w'.cell? ⟨w.heap.size, 2, none⟩ = some (.slice (some ⟨b, off, none⟩) n c) ∧ Below w.heap.size w w' ∧ w.heap.size < w'.heap.size ∧ Bw < w'.heap.size ∧ Bh < w'.heap.size) → Below w'.heap.size w' w'' → (w''.cell? ⟨Bw, 0, none⟩ = some (.int .i64 W) ∧ w''.cell? ⟨Bh, 0, none⟩ = some (.int .i64 H) ∧ w''.cell? ⟨w.heap.size, 2, none⟩ = some (.slice (some ⟨b, off, none⟩) n c) ∧ Below w.heap.size w w'' ∧ w.heap.size < w''.heap.size ∧ Bw < w''.heap.size ∧ Bh < w''.heap.size)) := by
      rintro w' w'' ⟨a0, a1, a2, a3, a4, a5, a6⟩ hb
      have hs := hb.size
      exact ⟨(hb.cell (p := ⟨Bw, 0, none⟩) a5).trans a0, (hb.cell (p := ⟨Bh, 0, none⟩) a6).trans a1, (hb.cell (p := ⟨w.heap.size, 2, none⟩) a4).trans a2, a3.trans (hb.mono a3.size), by omega, by omega, by omega⟩
    have HK2 : Hid (∀ (w' : World) (a0 a1 a2 : Value), (w'.cell? ⟨Bw, 0, none⟩ = some (.int .i64 W) ∧ w'.cell? ⟨Bh, 0, none⟩ = some (.int .i64 H) ∧ w'.cell? ⟨w.heap.size, 2, none⟩ = some (.slice (some ⟨b, off, none⟩) n c) ∧ Below w.heap.size w w' ∧ w.heap.size < w'.heap.size ∧ Bw < w'.heap.size ∧ Bh < w'.heap.size) → ((((w'.setCell ⟨w.heap.size + 1, 0, none⟩ a0).setCell ⟨w.heap.size + 1, 1, none⟩ a1).setCell ⟨w.heap.size + 1, 2, none⟩ a2).cell? ⟨Bw, 0, none⟩ = some (.int .i64 W) ∧ (((w'.setCell ⟨w.heap.size + 1, 0, none⟩ a0).setCell ⟨w.heap.size + 1, 1, none⟩ a1).setCell ⟨w.heap.size + 1, 2, none⟩ a2).cell? ⟨Bh, 0, none⟩ = some (.int .i64 H) ∧ (((w'.setCell ⟨w.heap.size + 1, 0, none⟩ a0).setCell ⟨w.heap.size + 1, 1, none⟩ a1).setCell ⟨w.heap.size + 1, 2, none⟩ a2).cell? ⟨w.heap.size, 2, none⟩ = some (.slice (some ⟨b, off, none⟩) n c) ∧ Below w.heap.size w (((w'.setCell ⟨w.heap.size + 1, 0, none⟩ a0).setCell ⟨w.heap.size + 1, 1, none⟩ a1).setCell ⟨w.heap.size + 1, 2, none⟩ a2) ∧ w.heap.size < (((w'.setCell ⟨w.heap.size + 1, 0, none⟩ a0).setCell ⟨w.heap.size + 1, 1, none⟩ a1).setCell ⟨w.heap.size + 1, 2, none⟩ a2).heap.size ∧ Bw < (((w'.setCell ⟨w.heap.size + 1, 0, none⟩ a0).setCell ⟨w.heap.size + 1, 1, none⟩ a1).setCell ⟨w.heap.size + 1, 2, none⟩ a2).heap.size ∧ Bh < (((w'.setCell ⟨w.heap.size + 1, 0, none⟩ a0).setCell ⟨w.heap.size + 1, 1, none⟩ a1).setCell ⟨w.heap.size + 1, 2, none⟩ a2).heap.size)) := by
      rintro w' x0 x1 x2 ⟨a0, a1, a2, a3, a4, a5, a6⟩
      have oth : ∀ (V : World) (B o p : Nat) (u : Value), B ≠ w.heap.size + 1 → (V.setCell ⟨w.heap.size + 1, p, none⟩ u).cell? ⟨B, o, none⟩ = V.cell? ⟨B, o, none⟩ := fun V B o p u h => World.cell?_setCell_other V _ _ u (fun e => h (by injection e with e; first | exact e.symm | exact e))
      refine ⟨?_, ?_, ?_, ((a3.setCell (by simp) _).setCell (by simp) _).setCell (by simp) _, by simpa [World.setCell] using a4, by simpa [World.setCell] using a5, by simpa [World.setCell] using a6⟩
      · rw [oth _ _ _ _ _ hne1, oth _ _ _ _ _ hne1, oth _ _ _ _ _ hne1]; exact a0
      · rw [oth _ _ _ _ _ hne2, oth _ _ _ _ _ hne2, oth _ _ _ _ _ hne2]; exact a1
      · rw [oth _ _ _ _ _ (by omega), oth _ _ _ _ _ (by omega), oth _ _ _ _ _ (by omega)]; exact a2
    have hS0 : (fun w' : World => w'.cell? ⟨Bw, 0, none⟩ = some (.int .i64 W) ∧ w'.cell? ⟨Bh, 0, none⟩ = some (.int .i64 H) ∧ w'.cell? ⟨w.heap.size, 2, none⟩ = some (.slice (some ⟨b, off, none⟩) n c) ∧ Below w.heap.size w w' ∧ w.heap.size < w'.heap.size ∧ Bw < w'.heap.size ∧ Bh < w'.heap.size) wc.drew := ⟨c7, c8, cg, HM.out.be.drew, by show w.heap.size < wc.heap.size; omega, HM.out.bw.lt, HM.out.bh.lt⟩
    dsimp only at hS0
    have HM2 := Lib.hid HM.out.b2.drew
    go_wp2
    go_region_held3 (fun w' => w'.cell? ⟨Bw, 0, none⟩ = some (.int .i64 W) ∧ w'.cell? ⟨Bh, 0, none⟩ = some (.int .i64 H) ∧ w'.cell? ⟨w.heap.size, 2, none⟩ = some (.slice (some ⟨b, off, none⟩) n c) ∧ Below w.heap.size w w' ∧ w.heap.size < w'.heap.size ∧ Bw < w'.heap.size ∧ Bh < w'.heap.size)
      (first | exact hS0 | (exact HK2.out _ _ _ _ (by first | assumption | exact ⟨by assumption, by assumption, by assumption, by assumption, by assumption, by assumption, by assumption⟩)) | (exact HK1.out _ _ (by first | assumption | exact hS0 | exact ⟨by assumption, by assumption, by assumption, by assumption, by assumption, by assumption, by assumption⟩) (by assumption)))
      (first | (go_at_call 59; refine (HC.out _ (by first | exact hS0.2.2.2.1 | assumption)).mono ?_; rintro e w1 ⟨A1, c1, rfl, ho1, hb1⟩; have bz := HM2.out.below hb1 HM2.out.lt; have z0 := bz.cell 0; have z1 := bz.cell 1; have z2 := bz.cell 2; simp only [List.getElem?_toArray, List.getElem?_cons_zero, List.getElem?_cons_succ] at z0 z1 z2; have y0 := bz.frozen 0; have y1 := bz.frozen 1; have y2 := bz.frozen 2; have lz := bz.lt; have HBz := Lib.hid bz; clear bz))
    have HO := Lib.hid ho1
    have HBe := Lib.hid hb1
    have HS := Lib.hid HM.out.be.size
    have HS2 := Lib.hid HM.out.b2.lt
    clear ho1 hb1 hS0
    go_wp2
    refine bodyPost_ret (v := .tuple #[.agg #[.int .i64 W, .int .i64 H, .slice A1 n c1], .int .i64 0]) (by simp [results, Try.results42, go_sem, z0, z1, z2, World.cell?_setCell_other, World.cell?_setCell_same]) rfl ?_
    rw [HP.out]
    refine ⟨_, rfl, ?_, ?_⟩
    · rw [← HG.out.2.2.2.2]
      exact own_base (own_setCell (own_setCell (own_setCell HO.out (p := ⟨w.heap.size + 1, 0, none⟩) (.inl HS2.out) _) (p := ⟨w.heap.size + 1, 1, none⟩) (.inl HS2.out) _) (p := ⟨w.heap.size + 1, 2, none⟩) (.inl HS2.out) _) HS.out
    · exact (((HM.out.be.drew.trans (HBe.out.mono HM.out.be.drew.size)).setCell (p := ⟨w.heap.size + 1, 0, none⟩) (by simp) _).setCell (p := ⟨w.heap.size + 1, 1, none⟩) (by simp) _).setCell (p := ⟨w.heap.size + 1, 2, none⟩) (by simp) _
  · go_wp2_with fail
    have hcl : ∀ (x y : Nat) (w' : World), x < H → y < W → Below wc.heap.size wc w' → Calls Try.prog 60 (#[.int .i64 (x : Int), .int .i64 (y : Int)] ++ #[.pointer (some ⟨w.heap.size, 0, none⟩), .pointer (some ⟨Bh, 0, none⟩), .pointer (some ⟨Bw, 0, none⟩)]) w' fun e w'' => e = .returned (.int .u8 (((fun x y => pixN g ((H - 1 - x) * W + y)) x y).toNat : Int)) ∧ w' = w'' := fun x y w' hx hy hb => by
      rw [app3]
      exact turn1_any x y w' hx hy w2 h2 HG.out.2.2.2.2 (HGB.out.later hb) ((hb.cell (p := ⟨Bh, 0, none⟩) HM.out.bh.lt).trans c8) ((hb.cell (p := ⟨Bw, 0, none⟩) HM.out.bw.lt).trans c7)
    refine (build_any H W 60 #[.pointer (some ⟨w.heap.size, 0, none⟩), .pointer (some ⟨Bh, 0, none⟩), .pointer (some ⟨Bw, 0, none⟩)] (fun x y => pixN g ((H - 1 - x) * W + y)) wc h1 h2 w1 w2 enter60 hcl).mono ?_
    clear hcl
    rintro e w3 ⟨vg, rfl, ho, hb3⟩
    rw [bldL_length] at ho
    have HT : Hid (trnL W H g 1 = bldL H W fun x y => pixN g ((H - 1 - x) * W + y)) := rfl
    generalize (bldL H W fun x y => pixN g ((H - 1 - x) * W + y)) = gl at *
    obtain ⟨Ag, cg', eg⟩ := own_form ho
    subst eg
    have hm := HM.out.later hb3
    have z0 := hm.b2.cell 0
    have z1 := hm.b2.cell 1
    have z2 := hm.b2.cell 2
    simp only [List.getElem?_toArray, List.getElem?_cons_zero, List.getElem?_cons_succ] at z0 z1 z2
    have f0 := hm.b2.frozen 0
    have f1 := hm.b2.frozen 1
    have f2 := hm.b2.frozen 2
    have lb := hm.b2.lt
    have HM3 := Lib.hid hm
    have HO := Lib.hid ho
    have HS := Lib.hid HM.out.be.size
    have HS2 := Lib.hid HM.out.b2.lt
    clear hm ho hb3 hpos hle
    generalize hmm : H * W = m at *
    have HMm := Lib.hid hmm
    clear hmm
    go_wp2
    refine bodyPost_ret (v := .tuple #[.agg #[.int .i64 H, .int .i64 W, .slice Ag m cg'], .int .i64 0]) (by simp [results, Try.results42, go_sem, z0, z1, z2, World.cell?_setCell_other, World.cell?_setCell_same]) rfl ?_
    rw [HP.out]
    refine ⟨_, rfl, ?_, ?_⟩
    · rw [show trnL W H g (1 % 4) = gl from HT.out, Nat.mul_comm W H, HMm.out]
      exact own_base (own_setCell (own_setCell (own_setCell HO.out (p := ⟨w.heap.size + 1, 0, none⟩) (.inl HS2.out) _) (p := ⟨w.heap.size + 1, 1, none⟩) (.inl HS2.out) _) (p := ⟨w.heap.size + 1, 2, none⟩) (.inl HS2.out) _) HS.out
    · exact ((HM3.out.be.setCell (p := ⟨w.heap.size + 1, 0, none⟩) (by simp) _).setCell (p := ⟨w.heap.size + 1, 1, none⟩) (by simp) _).setCell (p := ⟨w.heap.size + 1, 2, none⟩) (by simp) _
  · go_wp2_with fail
    have hcl : ∀ (x y : Nat) (w' : World), x < W → y < H → Below wc.heap.size wc w' → Calls Try.prog 61 (#[.int .i64 (x : Int), .int .i64 (y : Int)] ++ #[.pointer (some ⟨w.heap.size, 0, none⟩), .pointer (some ⟨Bh, 0, none⟩), .pointer (some ⟨Bw, 0, none⟩)]) w' fun e w'' => e = .returned (.int .u8 (((fun x y => pixN g ((H - 1 - y) * W + W - 1 - x)) x y).toNat : Int)) ∧ w' = w'' := fun x y w' hx hy hb => by
      rw [app3]
      exact turn2_any x y w' hx hy w2 h2 HG.out.2.2.2.2 (HGB.out.later hb) ((hb.cell (p := ⟨Bh, 0, none⟩) HM.out.bh.lt).trans c8) ((hb.cell (p := ⟨Bw, 0, none⟩) HM.out.bw.lt).trans c7)
    refine (build_any W H 61 #[.pointer (some ⟨w.heap.size, 0, none⟩), .pointer (some ⟨Bh, 0, none⟩), .pointer (some ⟨Bw, 0, none⟩)] (fun x y => pixN g ((H - 1 - y) * W + W - 1 - x)) wc w1 w2 h1 h2 enter61 hcl).mono ?_
    clear hcl
    rintro e w3 ⟨vg, rfl, ho, hb3⟩
    rw [bldL_length] at ho
    have HT : Hid (trnL W H g 2 = bldL W H fun x y => pixN g ((H - 1 - y) * W + W - 1 - x)) := rfl
    generalize (bldL W H fun x y => pixN g ((H - 1 - y) * W + W - 1 - x)) = gl at *
    obtain ⟨Ag, cg', eg⟩ := own_form ho
    subst eg
    have hm := HM.out.later hb3
    have z0 := hm.b2.cell 0
    have z1 := hm.b2.cell 1
    have z2 := hm.b2.cell 2
    simp only [List.getElem?_toArray, List.getElem?_cons_zero, List.getElem?_cons_succ] at z0 z1 z2
    have f0 := hm.b2.frozen 0
    have f1 := hm.b2.frozen 1
    have f2 := hm.b2.frozen 2
    have lb := hm.b2.lt
    have HM3 := Lib.hid hm
    have HO := Lib.hid ho
    have HS := Lib.hid HM.out.be.size
    have HS2 := Lib.hid HM.out.b2.lt
    clear hm ho hb3 hpos hle
    generalize hmm : W * H = m at *
    have HMm := Lib.hid hmm
    clear hmm
    go_wp2
    refine bodyPost_ret (v := .tuple #[.agg #[.int .i64 W, .int .i64 H, .slice Ag m cg'], .int .i64 0]) (by simp [results, Try.results42, go_sem, z0, z1, z2, World.cell?_setCell_other, World.cell?_setCell_same]) rfl ?_
    rw [HP.out]
    refine ⟨_, rfl, ?_, ?_⟩
    · rw [show trnL W H g (2 % 4) = gl from HT.out]
      exact own_base (own_setCell (own_setCell (own_setCell HO.out (p := ⟨w.heap.size + 1, 0, none⟩) (.inl HS2.out) _) (p := ⟨w.heap.size + 1, 1, none⟩) (.inl HS2.out) _) (p := ⟨w.heap.size + 1, 2, none⟩) (.inl HS2.out) _) HS.out
    · exact ((HM3.out.be.setCell (p := ⟨w.heap.size + 1, 0, none⟩) (by simp) _).setCell (p := ⟨w.heap.size + 1, 1, none⟩) (by simp) _).setCell (p := ⟨w.heap.size + 1, 2, none⟩) (by simp) _
  · go_wp2_with fail
    have hcl : ∀ (x y : Nat) (w' : World), x < H → y < W → Below wc.heap.size wc w' → Calls Try.prog 62 (#[.int .i64 (x : Int), .int .i64 (y : Int)] ++ #[.pointer (some ⟨w.heap.size, 0, none⟩), .pointer (some ⟨Bw, 0, none⟩)]) w' fun e w'' => e = .returned (.int .u8 (((fun x y => pixN g (x * W + W - 1 - y)) x y).toNat : Int)) ∧ w' = w'' := fun x y w' hx hy hb => by
      rw [app2]
      exact turn3_any x y w' hx hy w2 h2 HG.out.2.2.2.2 (HGB.out.later hb) ((hb.cell (p := ⟨Bw, 0, none⟩) HM.out.bw.lt).trans c7)
    refine (build_any H W 62 #[.pointer (some ⟨w.heap.size, 0, none⟩), .pointer (some ⟨Bw, 0, none⟩)] (fun x y => pixN g (x * W + W - 1 - y)) wc h1 h2 w1 w2 enter62 hcl).mono ?_
    clear hcl
    rintro e w3 ⟨vg, rfl, ho, hb3⟩
    rw [bldL_length] at ho
    have HT : Hid (trnL W H g 3 = bldL H W fun x y => pixN g (x * W + W - 1 - y)) := rfl
    generalize (bldL H W fun x y => pixN g (x * W + W - 1 - y)) = gl at *
    obtain ⟨Ag, cg', eg⟩ := own_form ho
    subst eg
    have hm := HM.out.later hb3
    have z0 := hm.b2.cell 0
    have z1 := hm.b2.cell 1
    have z2 := hm.b2.cell 2
    simp only [List.getElem?_toArray, List.getElem?_cons_zero, List.getElem?_cons_succ] at z0 z1 z2
    have f0 := hm.b2.frozen 0
    have f1 := hm.b2.frozen 1
    have f2 := hm.b2.frozen 2
    have lb := hm.b2.lt
    have HM3 := Lib.hid hm
    have HO := Lib.hid ho
    have HS := Lib.hid HM.out.be.size
    have HS2 := Lib.hid HM.out.b2.lt
    clear hm ho hb3 hpos hle
    generalize hmm : H * W = m at *
    have HMm := Lib.hid hmm
    clear hmm
    go_wp2
    refine bodyPost_ret (v := .tuple #[.agg #[.int .i64 H, .int .i64 W, .slice Ag m cg'], .int .i64 0]) (by simp [results, Try.results42, go_sem, z0, z1, z2, World.cell?_setCell_other, World.cell?_setCell_same]) rfl ?_
    rw [HP.out]
    refine ⟨_, rfl, ?_, ?_⟩
    · rw [show trnL W H g (3 % 4) = gl from HT.out, Nat.mul_comm W H, HMm.out]
      exact own_base (own_setCell (own_setCell (own_setCell HO.out (p := ⟨w.heap.size + 1, 0, none⟩) (.inl HS2.out) _) (p := ⟨w.heap.size + 1, 1, none⟩) (.inl HS2.out) _) (p := ⟨w.heap.size + 1, 2, none⟩) (.inl HS2.out) _) HS.out
    · exact ((HM3.out.be.setCell (p := ⟨w.heap.size + 1, 0, none⟩) (by simp) _).setCell (p := ⟨w.heap.size + 1, 1, none⟩) (by simp) _).setCell (p := ⟨w.heap.size + 1, 2, none⟩) (by simp) _
  · have hne1 : Bw ≠ w.heap.size + 1 := fun e => by have h := HM.out.bw; rw [e] at h; unfold Blk at h; rw [show wc.heap[w.heap.size + 1]? = _ from HM.out.b2] at h; simp at h
    have hne2 : Bh ≠ w.heap.size + 1 := fun e => by have h := HM.out.bh; rw [e] at h; unfold Blk at h; rw [show wc.heap[w.heap.size + 1]? = _ from HM.out.b2] at h; simp at h
    have HK1 : Hid (∀ w' w'' : World, (w'.cell? ⟨Bw, 0, none⟩ = some (.int .i64 W) ∧ w'.cell? ⟨Bh, 0, none⟩ = some (.int .i64 H) ∧ w'.cell? ⟨w.heap.size, 2, none⟩ = some (.slice (some ⟨b, off, none⟩) n c) ∧ Below w.heap.size w w' ∧ w.heap.size < w'.heap.size ∧ Bw < w'.heap.size ∧ Bh < w'.heap.size) → Below w'.heap.size w' w'' → (w''.cell? ⟨Bw, 0, none⟩ = some (.int .i64 W) ∧ w''.cell? ⟨Bh, 0, none⟩ = some (.int .i64 H) ∧ w''.cell? ⟨w.heap.size, 2, none⟩ = some (.slice (some ⟨b, off, none⟩) n c) ∧ Below w.heap.size w w'' ∧ w.heap.size < w''.heap.size ∧ Bw < w''.heap.size ∧ Bh < w''.heap.size)) := by
      rintro w' w'' ⟨a0, a1, a2, a3, a4, a5, a6⟩ hb
      have hs := hb.size
      exact ⟨(hb.cell (p := ⟨Bw, 0, none⟩) a5).trans a0, (hb.cell (p := ⟨Bh, 0, none⟩) a6).trans a1, (hb.cell (p := ⟨w.heap.size, 2, none⟩) a4).trans a2, a3.trans (hb.mono a3.size), by omega, by omega, by omega⟩
    have HK2 : Hid (∀ (w' : World) (a0 a1 a2 : Value), (w'.cell? ⟨Bw, 0, none⟩ = some (.int .i64 W) ∧ w'.cell? ⟨Bh, 0, none⟩ = some (.int .i64 H) ∧ w'.cell? ⟨w.heap.size, 2, none⟩ = some (.slice (some ⟨b, off, none⟩) n c) ∧ Below w.heap.size w w' ∧ w.heap.size < w'.heap.size ∧ Bw < w'.heap.size ∧ Bh < w'.heap.size) → ((((w'.setCell ⟨w.heap.size + 1, 0, none⟩ a0).setCell ⟨w.heap.size + 1, 1, none⟩ a1).setCell ⟨w.heap.size + 1, 2, none⟩ a2).cell? ⟨Bw, 0, none⟩ = some (.int .i64 W) ∧ (((w'.setCell ⟨w.heap.size + 1, 0, none⟩ a0).setCell ⟨w.heap.size + 1, 1, none⟩ a1).setCell ⟨w.heap.size + 1, 2, none⟩ a2).cell? ⟨Bh, 0, none⟩ = some (.int .i64 H) ∧ (((w'.setCell ⟨w.heap.size + 1, 0, none⟩ a0).setCell ⟨w.heap.size + 1, 1, none⟩ a1).setCell ⟨w.heap.size + 1, 2, none⟩ a2).cell? ⟨w.heap.size, 2, none⟩ = some (.slice (some ⟨b, off, none⟩) n c) ∧ Below w.heap.size w (((w'.setCell ⟨w.heap.size + 1, 0, none⟩ a0).setCell ⟨w.heap.size + 1, 1, none⟩ a1).setCell ⟨w.heap.size + 1, 2, none⟩ a2) ∧ w.heap.size < (((w'.setCell ⟨w.heap.size + 1, 0, none⟩ a0).setCell ⟨w.heap.size + 1, 1, none⟩ a1).setCell ⟨w.heap.size + 1, 2, none⟩ a2).heap.size ∧ Bw < (((w'.setCell ⟨w.heap.size + 1, 0, none⟩ a0).setCell ⟨w.heap.size + 1, 1, none⟩ a1).setCell ⟨w.heap.size + 1, 2, none⟩ a2).heap.size ∧ Bh < (((w'.setCell ⟨w.heap.size + 1, 0, none⟩ a0).setCell ⟨w.heap.size + 1, 1, none⟩ a1).setCell ⟨w.heap.size + 1, 2, none⟩ a2).heap.size)) := by
      rintro w' x0 x1 x2 ⟨a0, a1, a2, a3, a4, a5, a6⟩
      have oth : ∀ (V : World) (B o p : Nat) (u : Value), B ≠ w.heap.size + 1 → (V.setCell ⟨w.heap.size + 1, p, none⟩ u).cell? ⟨B, o, none⟩ = V.cell? ⟨B, o, none⟩ := fun V B o p u h => World.cell?_setCell_other V _ _ u (fun e => h (by injection e with e; first | exact e.symm | exact e))
      refine ⟨?_, ?_, ?_, ((a3.setCell (by simp) _).setCell (by simp) _).setCell (by simp) _, by simpa [World.setCell] using a4, by simpa [World.setCell] using a5, by simpa [World.setCell] using a6⟩
      · rw [oth _ _ _ _ _ hne1, oth _ _ _ _ _ hne1, oth _ _ _ _ _ hne1]; exact a0
      · rw [oth _ _ _ _ _ hne2, oth _ _ _ _ _ hne2, oth _ _ _ _ _ hne2]; exact a1
      · rw [oth _ _ _ _ _ (by omega), oth _ _ _ _ _ (by omega), oth _ _ _ _ _ (by omega)]; exact a2
    have hS0 : (fun w' : World => w'.cell? ⟨Bw, 0, none⟩ = some (.int .i64 W) ∧ w'.cell? ⟨Bh, 0, none⟩ = some (.int .i64 H) ∧ w'.cell? ⟨w.heap.size, 2, none⟩ = some (.slice (some ⟨b, off, none⟩) n c) ∧ Below w.heap.size w w' ∧ w.heap.size < w'.heap.size ∧ Bw < w'.heap.size ∧ Bh < w'.heap.size) wc.drew := ⟨c7, c8, cg, HM.out.be.drew, by show w.heap.size < wc.heap.size; omega, HM.out.bw.lt, HM.out.bh.lt⟩
    dsimp only at hS0
    have HM2 := Lib.hid HM.out.b2.drew
    go_wp2
    go_region_held3 (fun w' => w'.cell? ⟨Bw, 0, none⟩ = some (.int .i64 W) ∧ w'.cell? ⟨Bh, 0, none⟩ = some (.int .i64 H) ∧ w'.cell? ⟨w.heap.size, 2, none⟩ = some (.slice (some ⟨b, off, none⟩) n c) ∧ Below w.heap.size w w' ∧ w.heap.size < w'.heap.size ∧ Bw < w'.heap.size ∧ Bh < w'.heap.size)
      (first | exact hS0 | (exact HK2.out _ _ _ _ (by first | assumption | exact ⟨by assumption, by assumption, by assumption, by assumption, by assumption, by assumption, by assumption⟩)) | (exact HK1.out _ _ (by first | assumption | exact hS0 | exact ⟨by assumption, by assumption, by assumption, by assumption, by assumption, by assumption, by assumption⟩) (by assumption)))
      (first | (go_at_call 59; refine (HC.out _ (by first | exact hS0.2.2.2.1 | assumption)).mono ?_; rintro e w1 ⟨A1, c1, rfl, ho1, hb1⟩; have bz := HM2.out.below hb1 HM2.out.lt; have z0 := bz.cell 0; have z1 := bz.cell 1; have z2 := bz.cell 2; simp only [List.getElem?_toArray, List.getElem?_cons_zero, List.getElem?_cons_succ] at z0 z1 z2; have y0 := bz.frozen 0; have y1 := bz.frozen 1; have y2 := bz.frozen 2; have lz := bz.lt; have HBz := Lib.hid bz; clear bz))
    have HO := Lib.hid ho1
    have HBe := Lib.hid hb1
    have HS := Lib.hid HM.out.be.size
    have HS2 := Lib.hid HM.out.b2.lt
    clear ho1 hb1 hS0
    go_wp2
    refine bodyPost_ret (v := .tuple #[.agg #[.int .i64 W, .int .i64 H, .slice A1 n c1], .int .i64 0]) (by simp [results, Try.results42, go_sem, z0, z1, z2, World.cell?_setCell_other, World.cell?_setCell_same]) rfl ?_
    rw [HP.out]
    refine ⟨_, rfl, ?_, ?_⟩
    · rw [← HG.out.2.2.2.2]
      exact own_base (own_setCell (own_setCell (own_setCell HO.out (p := ⟨w.heap.size + 1, 0, none⟩) (.inl HS2.out) _) (p := ⟨w.heap.size + 1, 1, none⟩) (.inl HS2.out) _) (p := ⟨w.heap.size + 1, 2, none⟩) (.inl HS2.out) _) HS.out
    · exact (((HM.out.be.drew.trans (HBe.out.mono HM.out.be.drew.size)).setCell (p := ⟨w.heap.size + 1, 0, none⟩) (by simp) _).setCell (p := ⟨w.heap.size + 1, 1, none⟩) (by simp) _).setCell (p := ⟨w.heap.size + 1, 2, none⟩) (by simp) _
end Go.Proofs.Ytjcijogdcafloaa
