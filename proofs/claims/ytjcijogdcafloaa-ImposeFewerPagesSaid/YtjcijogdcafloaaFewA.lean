/- Small walks of ImposeFewerPages: late, samePlate, Clone and Equal of places, dots. -/
import Derived.Test.YtjcijogdcafloaaEqualMk
namespace Go.Proofs.Ytjcijogdcafloaa
open Go.RowKit
theorem plcells_ones (l : List Pla) : ∀ u ∈ plcells l, u.oneCell' = true := by
  intro u hu
  obtain ⟨x, _, hx⟩ := List.mem_flatMap.1 hu
  simp only [plcell, List.mem_cons, List.not_mem_nil, or_false] at hx
  rcases hx with rfl | rfl | rfl | rfl <;> rfl
theorem plcells_length (l : List Pla) : (plcells l).length = l.length * 4 := by
  induction l with
  | nil => rfl
  | cons x l ih => simp only [plcells, List.flatMap_cons, List.length_append, List.length_cons] at ih ⊢; rw [ih]; simp [plcell]; omega
theorem late_any (p : Pla) (B : Nat) (many : Int) (w : World) (hc : w.cell? ⟨B, 0, none⟩ = some (.int .i64 many)) (hB : B < w.heap.size) :
    Calls Try.prog 21 #[.agg #[.int .i64 p.page, .int .i64 p.x, .int .i64 p.y, .int .i64 p.turn], .pointer (some ⟨B, 0, none⟩)] w fun e w' => e = .returned (.bool (decide (many < p.page))) ∧ Below w.heap.size w w' := by
  obtain ⟨pp, px, py, pt⟩ := p
  have hb0 := Lib.hid ((Below.refl w.heap.size w).alloc (Nat.le_refl _) (Obj.cells #[.int .i64 pp, .int .i64 px, .int .i64 py, .int .i64 pt] 36))
  go_enter Try.func21, Try.ntmps21
  go_wp2
  go_ret
  exact ⟨rfl, hb0.out⟩
theorem same_plate (W H : Int) (va vb : Value) (l : List UInt8) (ok ok' : Nat → Prop) (w : World) (ha : Sl w ok va (byts l)) (hb : Sl w ok' vb (byts l)) (hn : l.length ≤ 2000000) :
    Calls Try.prog 22 #[.agg #[.int .i64 W, .int .i64 H, va], .agg #[.int .i64 W, .int .i64 H, vb]] w fun e w' => e = .returned (.bool true) ∧ Below w.heap.size w w' := by
  have HE : Hid (∀ w', Below w.heap.size w w' → Calls Try.prog 18 #[va, vb] w' fun e w'' => e = .returned (.bool true) ∧ Below w'.heap.size w' w'') := fun w' h => equal_bytes va vb l ok ok' w' (ha.later h) (hb.later h) hn
  obtain ⟨Aa, ca, rfl⟩ := ha.form
  obtain ⟨Ab, cb, rfl⟩ := hb.form
  have hb0 := Lib.hid (((Below.refl w.heap.size w).alloc (Nat.le_refl _) (Obj.cells #[.int .i64 W, .int .i64 H, .slice Aa (byts l).length ca] 52)).alloc (by simp) (Obj.cells #[.int .i64 W, .int .i64 H, .slice Ab (byts l).length cb] 52))
  clear ha hb
  generalize (byts l).length = n at *
  go_enter Try.func22, Try.ntmps22
  go_wp2_with fail
  refine (HE.out _ hb0.out).mono ?_; rintro e w1 ⟨rfl, hb1⟩
  have HB := Lib.hid (hb0.out.trans (hb1.mono hb0.out.size))
  clear hb1
  go_wp2
  go_ret
  exact ⟨rfl, HB.out⟩
set_option maxRecDepth 100000 in
set_option maxHeartbeats 4000000 in
theorem clone_pla (v : Value) (l : List Pla) (ok : Nat → Prop) (w : World) (h : PlV w ok v l) (hn : l.length ≤ 100000) :
    Calls Try.prog 25 #[v] w fun e w' => ∃ v', e = .returned v' ∧ w'.ownsRow w.heap.size 36 4 v' l.length (plcells l) ∧ Below w.heap.size w w' := by
  have HL := Lib.hid h
  have q38 : ∀ (w : World) (a : Option Addr) (n c n' c' : Nat), (binOp .eql 28 (.slice a n c) (.slice none n' c')).run Try.prog w = .ok (.bool a.isNone) w := fun w a n c n' c' => Lib.run_eql_slice_nil w _ _ a n c n' c' Try.underlying28
  obtain ⟨A, c, ev⟩ := SlM.form h
  subst ev
  clear h
  generalize hlen : l.length = n at *
  have HN := Lib.hid hlen
  clear hlen
  cases A with
  | none =>
    have hn0 : n = 0 := by
      rcases Nat.eq_zero_or_pos n with h | h
      · exact h
      · obtain ⟨b, off, e, _⟩ := SlM.addr HL.out (by rw [HN.out]; exact h); cases e
    subst hn0
    have hl : l = [] := List.eq_nil_of_length_eq_zero HN.out
    subst hl
    go_enter Try.func25, Try.ntmps25
    go_wp2
    go_ret
    exact ⟨_, rfl, World.ownsRow_nil w _ _ _, Below.refl _ w⟩
  | some ad =>
    have hown0 : Hid ((w.alloc (.cells #[] 36)).ownsRow w.heap.size 36 4 (.slice (some ⟨w.heap.size, 0, none⟩) 0 0) 0 []) :=
      ⟨rfl, .inr ⟨w.heap.size, 0, #[], rfl, Nat.le_refl _, heap_alloc_new w _, Nat.le_refl _, by simp, by simp, by simp⟩⟩
    go_enter Try.func25, Try.ntmps25
    go_wp2_with (at_builtin; go_must (refine wpList_append_slk ePla rfl (.tmp 5) (.tmp 6) rfl w.heap.size _ 0 [] rfl hown0.out (some ad) n c (plcells l) ok rfl (by have := SlM.alloc HL.out (.cells #[] 36); rw [HN.out] at this; exact this) (by rw [plcells_length, HN.out]) (plcells_ones l) (by omega) (by omega) (by omega) (by simp) ?_; intro v' w2 hown2 hg2 _))
    go_wp2
    go_ret
    refine ⟨_, rfl, by simpa [List.nil_append] using hown2, ?_⟩
    exact ((Below.refl _ w).alloc (Nat.le_refl _) _).grown hg2 (by simp) (by intro k hk; exact Nat.le_of_eq (Option.some.inj hk))
set_option maxRecDepth 100000 in
set_option maxHeartbeats 4000000 in
theorem equal_pla (va vb : Value) (l : List Pla) (ok ok' : Nat → Prop) (w : World) (ha : PlV w ok va l) (hb : PlV w ok' vb l) (hn : l.length ≤ 100000) :
    Calls Try.prog 23 #[va, vb] w fun e w' => e = .returned (.bool true) ∧ Below w.heap.size w w' := by
  have HA := Lib.hid ha
  have HB := Lib.hid hb
  obtain ⟨Aa, ca, eva⟩ := SlM.form ha
  obtain ⟨Ab, cb, evb⟩ := SlM.form hb
  clear ha hb
  generalize hlen : l.length = n at *
  have HN := Lib.hid hlen
  clear hlen
  subst eva evb
  go_enter Try.func23, Try.ntmps23
  go_wp2
  go_loopw [13] (fun vi wr => ∃ i : Nat, i ≤ n ∧ vi = .int .i64 i ∧ ∃ k, wr = w.drewN k) (fun i _ => n - (intOf i).toNat)
  case atStart => exact ⟨0, by omega, rfl, 0, rfl⟩
  case round =>
    obtain ⟨i, hi, rfl, k, rfl⟩ := hrel
    by_cases hlt : i < n
    · obtain ⟨b1, o1, c1, ev1, _, hl1, _, _, h1⟩ := PlV.cells HA.out (by rw [HN.out]; omega)
      obtain ⟨b2, o2, c2, ev2, _, hl2, _, _, h2⟩ := PlV.cells HB.out (by rw [HN.out]; omega)
      injection ev1 with e1 e1' e1''
      injection ev2 with e2 e2' e2''
      clear e1' e2'
      subst e1 e1'' e2 e2''
      obtain ⟨p0, p1, p2, p3⟩ := h1 i (by rw [HN.out]; exact hlt)
      obtain ⟨q0, q1, q2, q3⟩ := h2 i (by rw [HN.out]; exact hlt)
      generalize plN l i = x at *
      clear h1 h2
      obtain ⟨xx, xy, xw, xh⟩ := x
      dsimp only at p0 p1 p2 p3 q0 q1 q2 q3
      have hne : ∀ W, (binOp .neq 36 (.agg #[.int .i64 xx, .int .i64 xy, .int .i64 xw, .int .i64 xh]) (.agg #[.int .i64 xx, .int .i64 xy, .int .i64 xw, .int .i64 xh])).run Try.prog W = .ok (.bool false) W := fun W => by
        simp [go_sem]
      go_wp2
      go_region
      go_wp2
      go_roundw
      case rel => exact ⟨i + 1, by omega, by go_num, k + 1, rfl⟩
      case measure => simp [intOf]; omega
    · obtain rfl : i = n := by omega
      go_wp2
      go_ret
      exact ⟨rfl, below_drewN (Below.refl _ w) k⟩
theorem u8_byte (z : Int) : ∃ b : UInt8, IntKind.u8.wrap z = (b.toNat : Int) := by
  refine ⟨UInt8.ofNat (IntKind.u8.wrap z).toNat, ?_⟩
  have h : 0 ≤ IntKind.u8.wrap z ∧ IntKind.u8.wrap z < 256 := by simp [IntKind.wrap, IntKind.bits, IntKind.signed]; omega
  rw [UInt8.toNat_ofNat']
  omega
def DotsOk (W H : Nat) (w : World) (e : Ending) (w' : World) : Prop :=
  ∃ (l : List UInt8) (v' : Value), l.length = W * H ∧ e = .returned (.agg #[.int .i64 W, .int .i64 H, v']) ∧ w'.ownsRow w.heap.size 5 1 v' l.length (byts l) ∧ Below w.heap.size w w'
set_option maxRecDepth 100000 in
set_option maxHeartbeats 4000000 in
theorem dots_any (W H : Nat) (from_ : Int) (w : World) (w2 : W ≤ 256) (h2 : H ≤ 256) (f0 : 0 ≤ from_) (f1 : from_ ≤ 100000) :
    Calls Try.prog 20 #[.int .i64 (W : Int), .int .i64 (H : Int), .int .i64 from_] w (DotsOk W H w) := by
  have HP : Hid (∀ e w', DotsOk W H w e w' = ∃ (l : List UInt8) (v' : Value), l.length = W * H ∧ e = .returned (.agg #[.int .i64 W, .int .i64 H, v']) ∧ w'.ownsRow w.heap.size 5 1 v' l.length (byts l) ∧ Below w.heap.size w w') := fun _ _ => rfl
  generalize DotsOk W H w = Post at *
  obtain ⟨n, hn⟩ : ∃ n, W * H = n := ⟨_, rfl⟩
  have hmul : (W : Int) * (H : Int) = (n : Int) := by rw [← hn]; simp
  have hn9 : n ≤ 65536 := by rw [← hn]; exact Nat.mul_le_mul w2 h2
  have HN := Lib.hid hn
  clear hn
  have b1 := (Blk.new w 52 #[.int .i64 0, .int .i64 0, .slice none 0 0]).alloc (Obj.cells #[.int .i64 (W : Int), .int .i64 (H : Int), .slice none 0 0] 52)
  have b2 := Blk.new (w.alloc (Obj.cells #[.int .i64 0, .int .i64 0, .slice none 0 0] 52)) 52 #[.int .i64 (W : Int), .int .i64 (H : Int), .slice none 0 0]
  have b0 := ((Below.refl w.heap.size w).alloc (Nat.le_refl _) (Obj.cells #[.int .i64 0, .int .i64 0, .slice none 0 0] 52)).alloc (by simp) (Obj.cells #[.int .i64 (W : Int), .int .i64 (H : Int), .slice none 0 0] 52)
  rw [World.size_alloc] at b2
  have B1 := Lib.hid b1
  have B2 := Lib.hid b2
  have B0 := Lib.hid b0
  clear b1 b2 b0
  go_enter Try.func20, Try.ntmps20
  go_wp2
  go_loopw [8, 15] (fun _ v15 wr => ∃ (i : Nat) (l : List UInt8) (A : Option Addr) (c : Nat), v15 = .int .i64 (i : Int) ∧ i ≤ n ∧ l.length = i ∧ Blk wr w.heap.size 52 #[.int .i64 0, .int .i64 0, .slice none 0 0] ∧ Blk wr (w.heap.size + 1) 52 #[.int .i64 (W : Int), .int .i64 (H : Int), .slice A i c] ∧ wr.ownsRow (w.heap.size + 2) 5 1 (.slice A i c) i (byts l) ∧ Below w.heap.size w wr) (fun _ v15 _ => n - (intOf v15).toNat)
  case atStart => exact ⟨0, [], none, 0, rfl, by omega, rfl, B1.out, B2.out, ⟨rfl, .inl ⟨rfl, rfl⟩⟩, B0.out⟩
  case round =>
    obtain ⟨i, l, A, c, rfl, hi, hl, hb1, hb2, ho, hb⟩ := hrel
    by_cases hin : i < n
    · have e2 := hb2.cell 2
      simp only [List.getElem?_toArray, List.getElem?_cons_zero, List.getElem?_cons_succ] at e2
      have f2 := hb2.frozen 2
      have l2 := hb2.lt
      have hsq : 0 ≤ (i : Int) * (i : Int) ∧ (i : Int) * (i : Int) ≤ 4294967296 := by
        have := Nat.mul_le_mul (show i ≤ 65536 by omega) (show i ≤ 65536 by omega)
        have e : (i : Int) * (i : Int) = ((i * i : Nat) : Int) := by simp
        rw [e]; omega
      obtain ⟨s0, s1⟩ := hsq
      have H1 := Lib.hid hb1
      have H2 := Lib.hid hb2
      have HO := Lib.hid ho
      have HB := Lib.hid hb
      have HL := Lib.hid hl
      clear hb1 hb2 ho hb hl
      obtain ⟨b, hbb⟩ : ∃ b : UInt8, (from_ + (i : Int) * 7 + (i : Int) * (i : Int)) % 256 = (b.toNat : Int) := by
        refine ⟨UInt8.ofNat ((from_ + (i : Int) * 7 + (i : Int) * (i : Int)) % 256).toNat, ?_⟩
        rw [UInt8.toNat_ofNat']
        generalize (i : Int) * (i : Int) = q
        omega
      have hsz := HB.out.size
      go_wp2_with (at_builtin; refine wpList_push eByte rfl (.tmp 19) (.tmp 29) rfl (w.heap.size + 2) (.slice A i c) i _ rfl (HO.out.alloc _) ⟨wr.heap.size, 0, none⟩ 1 (.int .u8 (b.toNat : Int)) rfl (new_one _ _ _) rfl (by omega) (by omega) (by simp; omega) ?_; intro v5 w5 ho5 hg5 hk5; obtain ⟨g5, cap5, rfl⟩ := ownsRow_succ ho5; have z2 := (H2.out.alloc (Obj.cells #[.int .u8 (b.toNat : Int)] 5)).grown hg5 (own_low HO.out (by omega)); have z1 := (H1.out.alloc (Obj.cells #[.int .u8 (b.toNat : Int)] 5)).grown hg5 (own_low HO.out (by omega)); have y2 := z2.cell 2; simp only [List.getElem?_toArray, List.getElem?_cons_zero, List.getElem?_cons_succ] at y2; have g2 := z2.frozen 2; have m2 := z2.lt; have Z1 := Lib.hid z1; have Z2 := Lib.hid z2; have HO5 := Lib.hid ho5; have HG5 := Lib.hid hg5; clear z1 z2 ho5 hg5 hk5)
      go_roundw
      case rel =>
        refine ⟨i + 1, l ++ [b], some ⟨g5, 0, none⟩, cap5, by go_num, by omega, by rw [List.length_append, HL.out]; rfl, Z1.out.far (by simp) _, ?_, ?_, ?_⟩
        · have := Z2.out.put 2 (.slice (some ⟨g5, 0, none⟩) (i + 1) cap5); simpa using this
        · rw [show byts (l ++ [b]) = byts l ++ [.int .u8 (b.toNat : Int)] from by simp [byts]]
          exact own_setCell HO5.out (p := ⟨w.heap.size + 1, 2, none⟩) (.inl (by simp)) _
        · exact (((HB.out.alloc hsz _).grown HG5.out (by simp; omega) fun j hj => by have := (own_lt HO.out j hj).1; omega)).setCell (p := ⟨w.heap.size + 1, 2, none⟩) (by simp) _
      case measure => simp [intOf]; omega
    · obtain rfl : i = n := by omega
      have e0 := hb2.cell 0
      have e1 := hb2.cell 1
      have e2 := hb2.cell 2
      have z0 := hb1.cell 0
      have z1 := hb1.cell 1
      have z2 := hb1.cell 2
      simp only [List.getElem?_toArray, List.getElem?_cons_zero, List.getElem?_cons_succ] at e0 e1 e2 z0 z1 z2
      have f0 := hb1.frozen 0
      have f1 := hb1.frozen 1
      have f2 := hb1.frozen 2
      have l1 := hb1.lt
      have HO := Lib.hid ho
      have HB := Lib.hid hb
      have HL := Lib.hid hl
      clear hb1 hb2 ho hb hl
      go_wp2
      refine bodyPost_ret (v := .agg #[.int .i64 W, .int .i64 H, .slice A i c]) (by simp [results, Try.results20, go_sem, z0, z1, z2, World.cell?_setCell_other, World.cell?_setCell_same]) rfl ?_
      rw [HP.out]
      refine ⟨l, _, HL.out.trans HN.out.symm, rfl, ?_, ?_⟩
      · rw [HL.out]
        exact own_base (own_setCell (own_setCell (own_setCell HO.out (p := ⟨w.heap.size, 0, none⟩) (.inl (by simp)) _) (p := ⟨w.heap.size, 1, none⟩) (.inl (by simp)) _) (p := ⟨w.heap.size, 2, none⟩) (.inl (by simp)) _) (by omega)
      · exact ((HB.out.setCell (p := ⟨w.heap.size, 0, none⟩) (Nat.le_refl _) _).setCell (p := ⟨w.heap.size, 1, none⟩) (Nat.le_refl _) _).setCell (p := ⟨w.heap.size, 2, none⟩) (Nat.le_refl _) _
end Go.Proofs.Ytjcijogdcafloaa
